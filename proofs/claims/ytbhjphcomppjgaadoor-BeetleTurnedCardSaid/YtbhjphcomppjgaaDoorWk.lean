/- Walks of chapter 9: bales that make no difference. -/
import Derived.Test.YtbhjphcomppjgaaDoorWj
namespace Beetle09
theorem filt_take {p : Nat → Bool} {l : List Nat} {i : Nat} (hi : i < l.length) : (l.take (i + 1)).filter p = (l.take i).filter p ++ if p (l.getD i 0) then [l.getD i 0] else [] := by
  rw [List.take_succ_eq_append_getElem hi, List.filter_append]
  congr 1
  have : l.getD i 0 = l[i] := by simp [List.getD, hi]
  rw [this]
  cases h : p l[i] <;> simp [h]
end Beetle09
namespace Go.Proofs.YtbhjphcomppjgaaDoor
open Go.RowKit Beetle09
variable {r c : Int} {S F : List Int} {a b : Option Addr} {n m k j : Nat} {w : World}
set_option maxHeartbeats 8000000 in
set_option maxRecDepth 100000 in
theorem Idle_any (hS : IsL w a n k S) (hF : IsL w b m j F) (hT : Tab w) : Calls Tryd.prog 20 #[stV r c a b n k m j] w (LP (openE r c S F) (idleE r c S F) w) := by
  have hal : Below w.heap.size w (w.alloc (.cells #[.int .i64 r, .int .i64 c, .slice a n k, .slice b m j] 24)) := (Below.refl _ _).alloc (Nat.le_refl _) _
  have HC := Lib.hid (opened_any r c S F a b n m k j _ (hS.below hal) (hF.below hal))
  have HT0 := Lib.hid (hT.to hal)
  obtain ⟨E, hE⟩ : ∃ E, openE r c S F = E := ⟨_, rfl⟩
  have HE := Lib.hid hE
  clear hE hS hF hT
  go_enter Tryd.func20, Tryd.ntmps20
  go_wp2_with fail
  refine HC.out.mono ?_
  rintro e w1 ⟨b1, hor⟩
  have HT1 := Lib.hid (HT0.out.to b1)
  have k1 := hal.trans (b1.mono hal.size)
  have hs1 := hal.size
  have hb2 := b1.size
  rcases hor with ⟨h0, rfl⟩ | ⟨R, C, s, z, g, h0, hop, hg, hfl, rfl⟩
  · clear HC b1
    have t1 : (E != 0) = true := by rw [← HE.out]; simpa using h0
    have H0 := Lib.hid h0
    clear h0
    rw [HE.out]
    go_wp2_with fail
    go_ret2
    exact LP.nil HE.out (bad_idle H0.out) (k1.alloc (by omega) _)
  · clear HC b1
    obtain rfl : E = 0 := HE.out.symm.trans h0
    have H0 := Lib.hid h0
    have HOP := Lib.hid hop
    have hs25 := hop.s25
    have hz25 := hop.z25
    have kb := k1.alloc (by omega) (.cells #[.int .u32 (s : Int), .int .u32 (z : Int)] 79)
    have bal : Below w1.heap.size w1 (w1.alloc (.cells #[.int .u32 (s : Int), .int .u32 (z : Int)] 79)) := (Below.refl _ _).alloc (Nat.le_refl _) _
    have HTA := Lib.hid (HT1.out.to bal)
    have HFA : Hid (Flr (w1.alloc (.cells #[.int .u32 (s : Int), .int .u32 (z : Int)] 79)) g R C (nearN C (R * C))) := Lib.hid (ArrV.alloc hfl _)
    clear h0 hfl hop bal
    obtain ⟨wb, hwb⟩ : ∃ wb, wb = w1.alloc (.cells #[.int .u32 (s : Int), .int .u32 (z : Int)] 79) := ⟨_, rfl⟩
    have HST := Lib.hid (ArrV.new (f := VV) w1 #[.int .u32 (s : Int), .int .u32 (z : Int)] 79 [.int .u32 (s : Int), .int .u32 (z : Int)] _ rfl rfl)
    rw [← hwb] at HTA HFA kb HST
    have c0 := val HST.out 0 rfl
    have c1 := val HST.out 1 rfl
    have hwz : w1.heap.size < wb.heap.size := HST.out.lt
    have HR : Hid (idleE r c S F = li ((els 25 s).filter fun n => (fin R C z (del s n)).testBit n)) := Lib.hid (by rw [HOP.out.idle H0.out, idles, els_top HOP.out.rs.lt HOP.out.sd.n25])
    have HM : Hid (∀ i, i < (els 25 s).length → (els 25 s).getD i 0 < R * C) := Lib.hid fun i hi => by
      have : (els 25 s).getD i 0 ∈ els 25 s := by rw [List.getD, List.getElem?_eq_getElem hi]; exact List.getElem_mem hi
      exact bit_lt HOP.out.rs.lt (mem_els.1 this).2
    have HLL := Lib.hid (els_len 25 s)
    have hn25 := HOP.out.sd.n25
    have hs32 : s < 4294967296 := Nat.lt_of_lt_of_le hs25 (by decide)
    have hp25 := pcN_le 25 s
    have HC60 := Lib.hid (list_of s wb HTA.out hs25)
    obtain ⟨P, hP⟩ : ∃ P, pcN 25 s = P := ⟨_, rfl⟩
    obtain ⟨L, hL⟩ : ∃ L, els 25 s = L := ⟨_, rfl⟩
    rw [hL, hP] at HC60 HLL
    rw [hL] at HR HM
    rw [hP] at hp25
    have hbig := kb.size
    clear hP hL HT0 HT1
    go_wp2_with fail
    rw [← hwb]
    refine HC60.out.mono ?_
    rintro e w2 ⟨aL, cL, rfl, hOL, b2⟩
    have hcap := hOL.isL.cap
    have hle := hOL.isL.le
    have HOL := Lib.hid hOL
    clear hwb hOL HC60
    go_wp2_with fail
    go_loopw [24, 7] (fun vi vo wr => ∃ (i n2 : Nat) (ao : Option Addr) (co : Nat) (out : List Nat), i ≤ P ∧ vi = .int .i64 (i : Int) ∧ vo = .slice ao n2 co ∧ n2 ≤ i ∧ Hid (out = (L.take i).filter fun n => (fin R C z (del s n)).testBit n) ∧ Hid (OwnL wr 3 wb.heap.size ao n2 co (li out)) ∧ Hid (OwnL wr 3 wb.heap.size aL P cL (li L)) ∧ Hid (Sep ao aL) ∧ Below wb.heap.size wb wr) (fun vi _ _ => P - (intOf vi).toNat)
    case atStart => exact ⟨0, 0, none, 0, [], by omega, rfl, rfl, by omega, Lib.hid rfl, Lib.hid (OwnL.nilL _ _ _), HOL, Lib.hid (Sep.none_left _), b2⟩
    case round =>
      clear HOL b2
      obtain ⟨i, n2, ao, co, out, hi, rfl, rfl, hn2, hE, hO, hQ, hS, hb⟩ := hrel
      have hsz2 := hb.size
      by_cases hlt : i < P
      · have q1 : (i : Int) < (P : Int) := by omega
        obtain ⟨ga, rfl⟩ := hQ.out.addr (by omega)
        have y1 := (hQ.out.gen.cell i 0 hlt).1
        rw [li_get] at y1
        have hvN := HM.out i (by rw [HLL.out]; exact hlt)
        have hft := filt_take (p := fun n => (fin R C z (del s n)).testBit n) (l := L) (i := i) (by rw [HLL.out]; exact hlt)
        obtain ⟨v, hv⟩ : ∃ v, L.getD i 0 = v := ⟨_, rfl⟩
        rw [hv] at y1 hvN hft
        rw [← hE.out] at hft
        have hv25 : v < 25 := by omega
        have q2 : (v : Int) < 25 := by omega
        obtain ⟨V, hV, hV1, f1, f2, f3⟩ := pow_facts v hv25
        obtain ⟨d, hd⟩ : ∃ d, del s v = d := ⟨_, rfl⟩
        have f4 : bits .andNot .u32 (s : Int) (V : Int) = (d : Int) := by rw [u32_andNot_nat s V hs32 (by omega), ← hd, del, hV]
        have hdl : d < 2 ^ (R * C) := by rw [← hd]; exact del_lt HOP.out.rs.lt
        have c0r := (hb.cell (p := ⟨w1.heap.size, 0, none⟩) hwz).trans c0
        have c1r := (hb.cell (p := ⟨w1.heap.size, 1, none⟩) hwz).trans c1
        have bal0 : Below wr.heap.size wr (wr.alloc (.cells #[.int .u32 0, .int .u32 0] 79)) := (Below.refl _ _).alloc (Nat.le_refl _) _
        have c0a := (bal0.cell (p := ⟨w1.heap.size, 0, none⟩) (by simp; omega)).trans c0r
        have c1a := (bal0.cell (p := ⟨w1.heap.size, 1, none⟩) (by simp; omega)).trans c1r
        clear bal0
        have hal2 : Below wr.heap.size wr (wr.alloc (.cells #[.int .u32 (d : Int), .int .u32 (z : Int)] 79)).drew := ((Below.refl _ _).alloc (Nat.le_refl _) _).drew
        have hbd := hb.trans (hal2.mono hsz2)
        have HF2 : Hid (Flr (wr.alloc (.cells #[.int .u32 (d : Int), .int .u32 (z : Int)] 79)).drew g R C (nearN C (R * C))) := Lib.hid (ArrV.below HFA.out hbd)
        have HT2 := Lib.hid (HTA.out.to hbd)
        have HDL := Lib.hid hdl
        have HO2 := Lib.hid (hO.out.below hal2)
        have HQ2 := Lib.hid (hQ.out.below hal2)
        have HFL := Lib.hid (lt25 (fin_lt (R := R) (C := C) (z := z) hdl) hn25)
        have HC54 := Lib.hid (spread_any g R C d z _ HT2.out HOP.out.sd HF2.out HDL.out HOP.out.rz.lt)
        rw [hd] at hft
        obtain ⟨q, hq⟩ : ∃ q, fin R C z d = q := ⟨_, rfl⟩
        rw [hq] at hft HFL HC54
        have HFT := Lib.hid hft
        have hbs := hbd.size
        have hq32 : q < 4294967296 := Nat.lt_of_lt_of_le HFL.out (by decide)
        obtain ⟨B, hB⟩ : ∃ B, q.testBit v = B := ⟨_, rfl⟩
        have HC56 := Lib.hid (fun w => has_any q v w hq32 hv25 B hB)
        rw [hB] at hft
        have HFT2 := Lib.hid hft
        clear hv hV hd hq hB hft HFT hdl hO hQ hal2 hE
        go_wp2_with fail
        go_region
        all_goals
          go_wp2_with fail
          refine HC54.out.mono ?_
          rintro e w3 ⟨rfl, b3⟩
          have hb3 := hbd.trans (b3.mono hbs)
          have HO3 := Lib.hid (HO2.out.below b3)
          have HQ3 := Lib.hid (HQ2.out.below b3)
          have hz3 := hb3.size
          clear b3 HC54
          go_wp2_with fail
          refine (HC56.out _).mono ?_
          rintro e w4 ⟨rfl, rfl⟩
          cases B with
          | true =>
            go_wp2_with (at_builtin; refine wl_app_own Tryd.underlying22 elem3 wb.heap.size (.tmp 41) (.tmp 43) rfl rfl rfl rfl (HO3.out.alloc _) (isL_one _ _ _) (by simp; omega) (by omega) ?_)
            intro a5 c5 w5 ho5 hg5 hb5 hv5
            have hO5 : Hid (OwnL w5 3 wb.heap.size a5 (n2 + 1) c5 (li (out ++ [v]))) := Lib.hid (by rw [li_app]; exact ho5)
            have hQ5 : Hid (OwnL w5 3 wb.heap.size (some ⟨ga, 0, none⟩) P cL (li L)) := Lib.hid ((HQ3.out.alloc _).grown hg5 hS.out.symm)
            have hS5 : Hid (Sep a5 (some ⟨ga, 0, none⟩)) := Lib.hid (hS.out.via hv5 fun x' hx' => ((HQ3.out.alloc _).lt x' hx').2)
            have hb6 : Below wb.heap.size wb w5 := (hb3.alloc (by omega) _).trans hb5
            have HE5 : Hid (out ++ [v] = (L.take (i + 1)).filter fun n => (fin R C z (del s n)).testBit n) := Lib.hid (by rw [HFT2.out]; rfl)
            clear ho5 hg5 hb5 hv5 hb3 HO3 HQ3
            go_wp2
            go_roundw
            case rel => first | exact ⟨i + 1, n2 + 1, a5, c5, out ++ [v], by omega, by go_num, rfl, by omega, HE5, hO5, hQ5, hS5, hb6⟩ | ((repeat apply Exists.intro); exact ⟨⟨i + 1, n2 + 1, a5, c5, out ++ [v], by omega, by go_num, rfl, by omega, HE5, hO5, hQ5, hS5, hb6⟩, rfl⟩)
            case measure => (simp [intOf] <;> omega)
          | false =>
            have HE5 : Hid (out = (L.take (i + 1)).filter fun n => (fin R C z (del s n)).testBit n) := Lib.hid (by rw [HFT2.out]; simp)
            go_wp2_with fail
            go_roundw
            case rel => first | exact ⟨i + 1, n2, ao, co, out, by omega, by go_num, rfl, by omega, HE5, HO3, HQ3, hS, hb3⟩ | ((repeat apply Exists.intro); exact ⟨⟨i + 1, n2, ao, co, out, by omega, by go_num, rfl, by omega, HE5, HO3, HQ3, hS, hb3⟩, rfl⟩)
            case measure => (simp [intOf] <;> omega)
      · obtain rfl : i = P := by omega
        have HFIN : Hid (idleE r c S F = li out) := Lib.hid (by rw [HR.out, hE.out, List.take_of_length_le (by rw [HLL.out]; exact Nat.le_refl _)])
        go_wp2_with fail
        go_ret2
        exact LP.ok H0.out HFIN.out hO.out.isL (kb.trans (hb.mono hbig))
end Go.Proofs.YtbhjphcomppjgaaDoor
