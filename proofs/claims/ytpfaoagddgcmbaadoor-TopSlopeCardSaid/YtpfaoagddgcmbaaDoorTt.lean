/- TopSlope: the law. -/
import Derived.Test.YtpfaoagddgcmbaaDoorWv
namespace Go.Proofs.YtpfaoagddgcmbaaDoor
open Go.RowKit Wrap05 Dock01 Grade03 Blend04
set_option maxRecDepth 100000
theorem gcd_co {M s : Nat} (hs : s ≤ M) : Nat.gcd M (M - s) = Nat.gcd M s := by
  apply Nat.dvd_antisymm
  · refine Nat.dvd_gcd (Nat.gcd_dvd_left _ _) ?_
    have h := Nat.dvd_sub (Nat.gcd_dvd_left M (M - s)) (Nat.gcd_dvd_right M (M - s))
    rwa [Nat.sub_sub_self hs] at h
  · exact Nat.dvd_gcd (Nat.gcd_dvd_left _ _) (Nat.dvd_sub (Nat.gcd_dvd_left M s) (Nat.gcd_dvd_right M s))
/-- both codes, one behind the other: what is in them, and their sums -/
theorem sl_codes {T : Nat} {a b : List Int} (h : SlF T a b) (hT : 1 ≤ T) (h7 : T ≤ 7) : (codeL a).length = T ∧ (codeL b).length = T ∧ ∀ i, i ≤ T + T → 0 ≤ sumL ((codeL a ++ codeL b).take i) ∧ sumL ((codeL a ++ codeL b).take i) ≤ 7 * i := by
  have ca := cod_facts (chkE_zero.1 h.ca).1 h.la hT h7
  have cb := cod_facts (chkE_zero.1 h.cb).1 h.lb hT h7
  have hin : ∀ x ∈ codeL a ++ codeL b, 0 ≤ x ∧ x ≤ 7 := by
    intro x hx
    rcases List.mem_append.1 hx with hx | hx
    · obtain ⟨i, hi, rfl⟩ := getD_of_mem hx
      have := ca.inl i hi
      omega
    · obtain ⟨i, hi, rfl⟩ := getD_of_mem hx
      have := cb.inl i hi
      omega
  refine ⟨ca.len, cb.len, fun i => ?_⟩
  have hl : (codeL a ++ codeL b).length = T + T := by rw [List.length_append, ca.len, cb.len]
  induction i with
  | zero => intro _; simp [sumL]
  | succ i ih =>
    intro hi
    have h1 := ih (by omega)
    have h2 := hin _ (mem_getD (codeL a ++ codeL b) i (by omega))
    rw [sumL_next _ _ (by omega)]
    omega
theorem sl_tri (m : Nat) (h : m ≤ 6) : ∃ Y : Int, IntKind.i64.wrap ((m : Int) * ((m : Int) - 1)) = Y ∧ Y / 2 = (slS m : Int) ∧ 0 ≤ Y ∧ Y ≤ 100 ∧ IntKind.i64.wrap ((m : Int) - 1) = (m : Int) - 1 := by
  have : m = 0 ∨ m = 1 ∨ m = 2 ∨ m = 3 ∨ m = 4 ∨ m = 5 ∨ m = 6 := by omega
  rcases this with rfl | rfl | rfl | rfl | rfl | rfl | rfl <;> exact ⟨_, rfl, by decide, by decide, by decide, by decide⟩
theorem code_c (a : Option Addr) (n c : Nat) (l : List Int) (w : World) (h : IsL w a n c l) (hck : chkE l = 0) (hl : (codeL l).length = n) : Calls Tryd.prog 18 #[.slice a n c] w fun e w' => ∃ a' c', e = .returned (.tuple #[.slice a' n c', .int .i64 0]) ∧ IsL w' a' n c' (codeL l) ∧ Below w.heap.size w w' := by
  refine (Code_any _ _ _ l _ h).mono ?_
  rintro e w3 ⟨ac, mc, cc, rfl, hc, b3⟩
  unfold codE at hc
  rw [if_pos hck] at hc
  have e : mc = n := by rw [← hc.len, hl]
  subst e
  exact ⟨ac, cc, by rw [hck], hc, b3⟩
theorem diff_c (a b : Option Addr) (n c d : Nat) (la lb : List Int) (w : World) (h : IsL w a n c la) (h' : IsL w b n d lb) (hb : bothE la lb = 0) : Calls Tryd.prog 38 #[.slice a n c, .slice b n d] w fun e w' => ∃ a' c', e = .returned (.tuple #[.slice a' (difL la lb).length c', .int .i64 0]) ∧ Below w.heap.size w w' := by
  refine (Differ_any a b n n c d la lb w h h').mono ?_
  rintro e w' ⟨a', m, c', rfl, o, k⟩
  rw [if_pos hb] at o
  have e : (difL la lb).length = m := o.len
  subst e
  exact ⟨a', c', by rw [hb], k⟩
set_option maxHeartbeats 8000000 in
theorem TopSlope_any (mx sx tx : Int) (w : World) (hT : Tab w) (hm0 : 0 ≤ mx ∧ mx < 256) (hs0 : 0 ≤ sx ∧ sx < 256) (ht0 : 0 ≤ tx ∧ tx < 256) :
    Calls Tryd.prog 7 #[.int .u8 mx, .int .u8 sx, .int .u8 tx] w fun e w' => e = .returned (.bool true) ∧ Below w.heap.size w w' := by
  have HW := Lib.hid (fun w => wound_any mx sx tx w hm0 hs0 ht0)
  have HT := Lib.hid hT
  clear hm0 hs0 ht0 hT
  go_enter Tryd.func7, Tryd.ntmps7
  go_wp2_with fail
  refine (HW.out _).mono ?_
  rintro e w1 ⟨M, s, T0, rfl, ⟨hM1, hM60, hsM, hT1, hTA⟩, b1⟩
  have hs1 := b1.size
  obtain ⟨T, hT⟩ : ∃ T : Nat, min (T0 : Int) 7 = (T : Int) := ⟨min T0 7, by omega⟩
  have hT2 : (if (7 : Int) < (T0 : Int) then 7 else (T0 : Int)) = (T : Int) := by split <;> omega
  have T1 : 1 ≤ T := by omega
  have T7 : T ≤ 7 := by omega
  have TA : T ≤ M / Nat.gcd M s := by omega
  have HTA := Lib.hid TA
  clear hTA TA
  by_cases hs0 : s = 0
  · have q1 : ((s : Int) == 0) = true := by simp [hs0]
    clear hs0
    go_wp2_with fail
    have k2 : Below w.heap.size w (w1.alloc (.cells #[.int .i64 (M : Int), .int .i64 (s : Int), .int .i64 (T : Int)] 54)) := b1.alloc hs1 _
    refine (turnsWork_any _ (HT.out.below k2)).mono ?_
    rintro e w3 ⟨rfl, b3⟩
    have k3 := k2.trans (b3.mono k2.size)
    go_wp2_with fail
    go_ret
    exact ⟨rfl, k3⟩
  · have q1 : ((s : Int) == 0) = false := by simpa using hs0
    obtain ⟨u, hu⟩ : ∃ u, M - s = u := ⟨_, rfl⟩
    have w2 : IntKind.i64.wrap ((M : Int) - (s : Int)) = (u : Int) := by rw [IntWalk.i64_in _ (by omega)]; omega
    have HU := Lib.hid hu
    clear hu
    go_wp2_with fail
    obtain ⟨W, hW⟩ : ∃ W, (w1.alloc (.cells #[.int .i64 (M : Int), .int .i64 (s : Int), .int .i64 (T : Int)] 54)).alloc (.cells #[.int .i64 (M : Int), .int .i64 (u : Int), .int .i64 (T : Int)] 54) = W := ⟨_, rfl⟩
    have hA : WrpV W w1.heap.size M s T := by
      rw [← hW]
      exact ArrV.alloc (ArrV.new (f := VT) w1 _ _ [.int .i64 (M : Int), .int .i64 (s : Int), .int .i64 (T : Int)] _ rfl rfl) _
    have hB : WrpV W (w1.heap.size + 1) M u T := by
      rw [← hW]
      exact ArrV.new _ _ _ _ _ (by simp) rfl
    have kW : Below w.heap.size w W := by
      rw [← hW]
      exact (b1.alloc hs1 _).alloc (by simp; omega) _
    rw [hW]
    have hu := HU.out
    have SF := sl_facts hM60 (by omega) hsM T1 T7 HTA.out
    rw [hu] at SF
    have R1 := Lib.hid (fun w => Round_ok M s T w hM1 (by omega) hsM T1 HTA.out)
    have R2 := Lib.hid (fun w => Round_ok M u T w hM1 (by omega) (by omega) T1 (by rw [← hu, gcd_co (by omega)]; exact HTA.out))
    obtain ⟨la, hla⟩ : ∃ la, rdL M s T = la := ⟨_, rfl⟩
    obtain ⟨lb, hlb⟩ : ∃ lb, rdL M u T = lb := ⟨_, rfl⟩
    rw [hla, hlb] at SF
    rw [hla] at R1
    rw [hlb] at R2
    obtain ⟨cl1, cl2, hsb⟩ := sl_codes SF T1 T7
    have hbo : bothE la lb = 0 := bothE_zero.2 ⟨SF.ca, SF.cb, by rw [SF.la, SF.lb]⟩
    have HSF := Lib.hid SF
    have HBO := Lib.hid hbo
    have HC1 := Lib.hid cl1
    have HC2 := Lib.hid cl2
    have HSB := Lib.hid hsb
    have HA := Lib.hid hA
    have HB := Lib.hid hB
    clear hA hB hW hu hla hlb SF cl1 cl2 hsb hbo w2 hT hT2 b1
    refine (R1.out _).mono ?_
    rintro e w2 ⟨a, ca, rfl, ha, b2⟩
    have hle := ha.le
    have hcap := ha.cap
    have kk2 := b2
    have p0 : w2.cell? ⟨w1.heap.size + 1, 0, none⟩ = some (.int .i64 (M : Int)) := cellT (ArrV.below HB.out kk2) 0 rfl
    have p1 : w2.cell? ⟨w1.heap.size + 1, 1, none⟩ = some (.int .i64 (u : Int)) := cellT (ArrV.below HB.out kk2) 1 rfl
    have p2 : w2.cell? ⟨w1.heap.size + 1, 2, none⟩ = some (.int .i64 (T : Int)) := cellT (ArrV.below HB.out kk2) 2 rfl
    go_wp2_with fail
    refine (R2.out _).mono ?_
    rintro e w3 ⟨b, cb, rfl, hb, b3⟩
    have hleb := hb.le
    have hcapb := hb.cap
    have ha3 := ha.below b3
    have kk3 := kk2.trans (b3.mono kk2.size)
    have q2 : ((T : Int) != (T : Int)) = false := by simp
    have r2 : w3.cell? ⟨w1.heap.size, 2, none⟩ = some (.int .i64 (T : Int)) := cellT (ArrV.below HA.out kk3) 2 rfl
    clear p0 p1 p2 kk2 b2 b3 ha
    go_wp2_with fail
    refine (Check_any _ _ _ la _ ha3).mono ?_
    rintro e w4 ⟨rfl, b4⟩
    rw [HSF.out.ca]
    have ha4 := ha3.below b4
    have hb4 := hb.below b4
    have kk4 := kk3.trans (b4.mono kk3.size)
    clear ha3 hb kk3 b4 r2 q2
    go_wp2_with fail
    refine (Check_any _ _ _ lb _ hb4).mono ?_
    rintro e w5 ⟨rfl, b5⟩
    rw [HSF.out.cb]
    have ha5 := ha4.below b5
    have hb5 := hb4.below b5
    have kk5 := kk4.trans (b5.mono kk4.size)
    clear ha4 hb4 kk4 b5
    go_wp2_with fail
    refine (code_c a T ca la w5 ha5 HSF.out.ca HC1.out).mono ?_
    rintro e w6 ⟨a6, c6, rfl, hc6, b6⟩
    have ha6 := ha5.below b6
    have hb6 := hb5.below b6
    have kk6 := kk5.trans (b6.mono kk5.size)
    have hlec := hc6.le
    have hcapc := hc6.cap
    clear ha5 hb5 kk5 b6
    go_wp2_with fail
    refine (code_c b T cb lb w6 hb6 HSF.out.cb HC2.out).mono ?_
    rintro e w7 ⟨a7, c7, rfl, hd7, b7⟩
    have ha7 := Lib.hid (ha6.below b7)
    have hb7 := Lib.hid (hb6.below b7)
    have hc7 := hc6.below b7
    have kk7 := kk6.trans (b7.mono kk6.size)
    have hled := hd7.le
    have hcapd := hd7.cap
    clear ha6 hb6 kk6 b7 hc6
    go_wp2_with (at_builtin; refine wl_app_own Tryd.underlying23 elem3 w7.heap.size (.tmp 89) (.tmp 90) rfl rfl rfl rfl (own_lit w7 3 w7.heap.size (Nat.le_refl _) [] #[] 0 rfl rfl (by decide)) (hc7.alloc _) (by simp) (by omega) ?_)
    intro a8 c8 w8 o8 g8 b8 v8
    have k8 : Below w7.heap.size w7 w8 := ((Below.refl _ w7).alloc (Nat.le_refl _) _).trans b8
    have hd8 := hd7.below k8
    (try rw [List.nil_append] at o8)
    clear g8 b8 v8 hd7
    go_wp2_with (at_builtin; refine wl_app_own Tryd.underlying23 elem3 w7.heap.size (.tmp 91) (.tmp 92) rfl rfl rfl rfl o8 hd8 k8.size (by omega) ?_)
    intro a9 c9 w9 o9 g9 b9 v9
    have k9 := k8.trans b9
    (try rw [Nat.zero_add] at o9 ⊢)
    have HL9 := Lib.hid o9.isL
    have hle9 := o9.isL.le
    have hcap9 := o9.isL.cap
    have HLN : Hid ((codeL la ++ codeL lb).length = T + T) := Lib.hid (by rw [List.length_append, HC1.out, HC2.out])
    have HSUM : Hid (sumL ((codeL la ++ codeL lb).take (T + T)) = (slS (T - 1) : Int)) := Lib.hid (by rw [← HLN.out, List.take_length]; exact HSF.out.sum)
    obtain ⟨L, hL⟩ : ∃ L, codeL la ++ codeL lb = L := ⟨_, rfl⟩
    rw [hL] at HSB HL9 HLN HSUM
    have kk9 := Lib.hid (kk7.trans (k9.mono kk7.size))
    have ha9 := Lib.hid (ha7.out.below k9)
    have hb9 := Lib.hid (hb7.out.below k9)
    clear o8 o9 g9 b9 v9 k8 k9 hd8 hc7 ha7 hb7 hL kk7
    go_wp2_with fail
    obtain ⟨W9, rfl⟩ : ∃ W9, W9 = w9 := ⟨_, rfl⟩
    go_loopw [95, 15] (fun vi vs wr => ∃ i : Nat, i ≤ T + T ∧ vi = .int .i64 (i : Int) ∧ vs = .int .i64 (sumL (L.take i)) ∧ W9 = wr) (fun vi _ _ => T + T - (intOf vi).toNat)
    case atStart => exact ⟨0, by omega, rfl, rfl, rfl⟩
    case round =>
      obtain ⟨i, hi, rfl, rfl, rfl⟩ := hrel
      have w9 : IntKind.i64.wrap ((i : Int) + 1) = (i : Int) + 1 := IntWalk.i64_in _ (by omega)
      by_cases hlt : i < T + T
      · have q3 : (i : Int) < ((T + T : Nat) : Int) := by omega
        have q4 : (i : Int) < (T : Int) + (T : Int) := by omega
        obtain ⟨b', o', rfl, _, hcell⟩ := HL9.out.cells (by omega)
        have c1 := hcell i hlt
        have hb0 := HSB.out i (by omega)
        have hb1 := HSB.out (i + 1) (by omega)
        have hnx := sumL_next L i (by rw [HLN.out]; exact hlt)
        have HNX := Lib.hid hnx
        have w8 : IntKind.i64.wrap (sumL (L.take i) + L.getD i 0) = sumL (L.take i) + L.getD i 0 := IntWalk.i64_in _ (by omega)
        obtain ⟨x, hx⟩ : ∃ x, L.getD i 0 = x := ⟨_, rfl⟩
        rw [hx] at c1 w8 HNX
        clear hcell hnx hb1 hx
        go_wp2_with fail
        exact ⟨⟨i + 1, by omega, by go_num, by rw [HNX.out], by simp⟩, by simp [intOf]; omega⟩
      · have hi2 : i = T + T := by omega
        have q3 : ¬ (i : Int) < ((T + T : Nat) : Int) := by omega
        have q4 : ¬ (i : Int) < (T : Int) + (T : Int) := by omega
        have HI2 := Lib.hid hi2
        have hsm : sumL (L.take i) = (slS (T - 1) : Int) := by rw [hi2]; exact HSUM.out
        rw [hsm]
        have hdl : (difL la lb).length = slS (T - 1) := HSF.out.dif
        have HD := Lib.hid (diff_c a b T ca cb la lb W9 ha9.out hb9.out HBO.out)
        rw [hdl] at HD
        obtain ⟨m, hm⟩ : ∃ m, T - 1 = m := ⟨_, rfl⟩
        have w5 : IntKind.i64.wrap ((T : Int) - 1) = (m : Int) := by rw [IntWalk.i64_in _ (by omega)]; omega
        obtain ⟨Y, y1, y2, y3, y4, y5⟩ := sl_tri m (by omega)
        rw [hm] at HD ⊢
        generalize slS m = S at *
        have q5 : ((S : Int) == (S : Int)) = true := by simp
        have r2 : W9.cell? ⟨w1.heap.size, 2, none⟩ = some (.int .i64 (T : Int)) := cellT (ArrV.below HA.out kk9.out) 2 rfl
        have kw9 := kW.trans (kk9.out.mono kW.size)
        clear hi2 hsm hdl hm w9
        go_wp2_with fail
        refine HD.out.mono ?_
        rintro e w10 ⟨ad, cd, rfl, b10⟩
        have kw10 := kw9.trans (b10.mono kw9.size)
        clear r2 w5
        go_wp2_with fail
        refine (turnsWork_any _ (HT.out.below kw10)).mono ?_
        rintro e w11 ⟨rfl, b11⟩
        have kw11 := kw10.trans (b11.mono kw10.size)
        go_wp2_with fail
        go_ret
        exact ⟨rfl, kw11⟩
end Go.Proofs.YtpfaoagddgcmbaaDoor
