/- Walks of chapter 9: the reference: stores are asked. -/
import Derived.Test.YtbhjphcomppjgaaDoorRe
namespace Go.Proofs.YtbhjphcomppjgaaDoor
open Go.RowKit Beetle09
variable {r c : Int} {S F : List Int} {a b : Option Addr} {n m k j : Nat} {w : World}
set_option maxHeartbeats 8000000 in
set_option maxRecDepth 100000 in
theorem rSpread_any (hS : IsL w a n k S) (hF : IsL w b m j F) : Calls Tryd.prog 33 #[stV r c a b n k m j] w (LP (openE r c S F) (spreadE r c S F) w) := by
  have HB0 := Lib.hid (BoxS.start w (bxL r c a b n k m j) 27)
  have HC := Lib.hid (rCheck_any (r := r) (c := c) (hS.below HB0.out.below) (hF.below HB0.out.below))
  have x0 := val HB0.out.box 0 rfl
  have x1 := val HB0.out.box 1 rfl
  have x2 := val HB0.out.box 2 rfl
  have x3 := val HB0.out.box 3 rfl
  obtain ⟨E, hE⟩ : ∃ E, openE r c S F = E := ⟨_, rfl⟩
  have HE := Lib.hid hE
  by_cases h0 : E = 0
  · subst h0
    obtain ⟨R, C, s, z, hop⟩ := open_ok hE
    obtain rfl := hop.er
    obtain rfl := hop.ec
    have HOP := Lib.hid hop
    have HS := Lib.hid hS
    have HF := Lib.hid hF
    clear hE hop hS hF
    go_enter Tryd.func33, Tryd.ntmps33
    go_wp2_with fail
    refine HC.out.mono ?_
    rintro e w1 ⟨rfl, b1⟩
    rw [HE.out]
    have HB1 := Lib.hid (HB0.out.to b1)
    clear HC x0 x1 x2 x3 b1 HB0
    have x0 := val HB1.out.box 0 rfl
    have x1 := val HB1.out.box 1 rfl
    have x2 := val HB1.out.box 2 rfl
    have x3 := val HB1.out.box 3 rfl
    have HS1 := Lib.hid (HS.out.below HB1.out.below)
    have HF1 := Lib.hid (HF.out.below HB1.out.below)
    have hb1 := HB1.out.below
    have HR := Lib.hid (HOP.out.spread HE.out)
    have HCS := Lib.hid (rspread_any R C s z HS1.out HF1.out HOP.out.sd HOP.out.rs.mm HOP.out.rz.mm)
    go_wp2_with fail
    refine HCS.out.mono ?_
    rintro e w2 ⟨x, cx, rfl, hO, b2⟩
    go_wp2_with fail
    go_ret2
    exact LP.ok HE.out HR.out hO.isL (hb1.trans (b2.mono hb1.size))
  · have t1 : (E != 0) = true := by simpa using h0
    have t2 : (E == 0) = false := by simpa using h0
    have H0 : Hid (openE r c S F ≠ 0) := Lib.hid (by rw [hE]; exact h0)
    clear h0 hE hS hF
    go_enter Tryd.func33, Tryd.ntmps33
    go_wp2_with fail
    refine HC.out.mono ?_
    rintro e w1 ⟨rfl, b1⟩
    rw [HE.out]
    have hb1 := (HB0.out.to b1).below
    clear HC x0 x1 x2 x3 b1 HB0
    go_wp2_with fail
    go_ret2
    exact LP.nil HE.out (bad_spread H0.out) hb1
set_option maxHeartbeats 8000000 in
set_option maxRecDepth 100000 in
theorem rDays_any (hS : IsL w a n k S) (hF : IsL w b m j F) : Calls Tryd.prog 35 #[stV r c a b n k m j] w (LP (openE r c S F) (daysE r c S F) w) := by
  have HB0 := Lib.hid (BoxS.start w (bxL r c a b n k m j) 27)
  have HC := Lib.hid (rCheck_any (r := r) (c := c) (hS.below HB0.out.below) (hF.below HB0.out.below))
  have x0 := val HB0.out.box 0 rfl
  have x1 := val HB0.out.box 1 rfl
  have x2 := val HB0.out.box 2 rfl
  have x3 := val HB0.out.box 3 rfl
  obtain ⟨E, hE⟩ : ∃ E, openE r c S F = E := ⟨_, rfl⟩
  have HE := Lib.hid hE
  by_cases h0 : E = 0
  · subst h0
    obtain ⟨R, C, s, z, hop⟩ := open_ok hE
    obtain rfl := hop.er
    obtain rfl := hop.ec
    have HOP := Lib.hid hop
    have HS := Lib.hid hS
    have HF := Lib.hid hF
    clear hE hop hS hF
    go_enter Tryd.func35, Tryd.ntmps35
    go_wp2_with fail
    refine HC.out.mono ?_
    rintro e w1 ⟨rfl, b1⟩
    rw [HE.out]
    have HB1 := Lib.hid (HB0.out.to b1)
    clear HC x0 x1 x2 x3 b1 HB0
    have x0 := val HB1.out.box 0 rfl
    have x1 := val HB1.out.box 1 rfl
    have x2 := val HB1.out.box 2 rfl
    have x3 := val HB1.out.box 3 rfl
    have HS1 := Lib.hid (HS.out.below HB1.out.below)
    have HF1 := Lib.hid (HF.out.below HB1.out.below)
    have hb1 := HB1.out.below
    have HR := Lib.hid (HOP.out.days HE.out)
    have HCS := Lib.hid (rdays_any R C s z HS1.out HF1.out HOP.out.sd HOP.out.rs.mm HOP.out.rz.mm)
    go_wp2_with fail
    refine HCS.out.mono ?_
    rintro e w2 ⟨x, cx, rfl, hO, b2⟩
    go_wp2_with fail
    go_ret2
    exact LP.ok HE.out HR.out hO.isL (hb1.trans (b2.mono hb1.size))
  · have t1 : (E != 0) = true := by simpa using h0
    have t2 : (E == 0) = false := by simpa using h0
    have H0 : Hid (openE r c S F ≠ 0) := Lib.hid (by rw [hE]; exact h0)
    clear h0 hE hS hF
    go_enter Tryd.func35, Tryd.ntmps35
    go_wp2_with fail
    refine HC.out.mono ?_
    rintro e w1 ⟨rfl, b1⟩
    rw [HE.out]
    have hb1 := (HB0.out.to b1).below
    clear HC x0 x1 x2 x3 b1 HB0
    go_wp2_with fail
    go_ret2
    exact LP.nil HE.out (bad_days H0.out) hb1
set_option maxHeartbeats 8000000 in
set_option maxRecDepth 100000 in
theorem rOutline_any (hS : IsL w a n k S) (hF : IsL w b m j F) : Calls Tryd.prog 37 #[stV r c a b n k m j] w (NNP (openE r c S F) (out1E r c S F) (out2E r c S F) w) := by
  have HB0 := Lib.hid (BoxS.start w (bxL r c a b n k m j) 27)
  have HC := Lib.hid (rCheck_any (r := r) (c := c) (hS.below HB0.out.below) (hF.below HB0.out.below))
  have x0 := val HB0.out.box 0 rfl
  have x1 := val HB0.out.box 1 rfl
  have x2 := val HB0.out.box 2 rfl
  have x3 := val HB0.out.box 3 rfl
  obtain ⟨E, hE⟩ : ∃ E, openE r c S F = E := ⟨_, rfl⟩
  have HE := Lib.hid hE
  by_cases h0 : E = 0
  · subst h0
    obtain ⟨R, C, s, z, hop⟩ := open_ok hE
    obtain rfl := hop.er
    obtain rfl := hop.ec
    have HOP := Lib.hid hop
    have HS := Lib.hid hS
    have HF := Lib.hid hF
    clear hE hop hS hF
    go_enter Tryd.func37, Tryd.ntmps37
    go_wp2_with fail
    refine HC.out.mono ?_
    rintro e w1 ⟨rfl, b1⟩
    rw [HE.out]
    have HB1 := Lib.hid (HB0.out.to b1)
    clear HC x0 x1 x2 x3 b1 HB0
    have x0 := val HB1.out.box 0 rfl
    have x1 := val HB1.out.box 1 rfl
    have x2 := val HB1.out.box 2 rfl
    have x3 := val HB1.out.box 3 rfl
    have HS1 := Lib.hid (HS.out.below HB1.out.below)
    have HF1 := Lib.hid (HF.out.below HB1.out.below)
    have hb1 := HB1.out.below
    have HR1 := Lib.hid (HOP.out.out1 HE.out)
    have HR2 := Lib.hid (HOP.out.out2 HE.out)
    have hn25 := HOP.out.sd.n25
    have HSL : Hid (li (S.map Int.toNat) = S) := Lib.hid HOP.out.rs.li_nat
    have HO1 : Hid (outlL R C s (S.map Int.toNat) = outl R C s) := Lib.hid HOP.out.outl_nat
    have HM1 : Hid (∀ i ∈ S.map Int.toNat, i < R * C) := Lib.hid HOP.out.rs.nat_lt
    have HL25 : Hid ((S.map Int.toNat).length ≤ 1000) := Lib.hid (by have := HOP.out.rs.len_le; rw [List.length_map]; omega)
    have HFL := Lib.hid (fin_lt (R := R) (C := C) (z := z) HOP.out.rs.lt)
    have HPL : Hid (pcN (R * C) (fin R C z s) = (els (R * C) (fin R C z s)).length) := Lib.hid (els_len _ _).symm
    have H57 : Hid (∀ w', GoodW w1 w' → Calls Tryd.prog 57 #[stV R C a b n k m j] w' fun e w2 => ∃ x c, e = .returned (.slice x (pcN (R * C) (fin R C z s)) c) ∧ IsL w2 x (pcN (R * C) (fin R C z s)) c (li (els (R * C) (fin R C z s))) ∧ GoodW w1 w2) := Lib.hid fun w' h => (rspread_any R C s z (HS1.out.below h) (HF1.out.below h) HOP.out.sd HOP.out.rs.mm HOP.out.rz.mm).mono fun _ _ ⟨x, c, he, hO, hb⟩ => ⟨x, c, he, hO.isL, h.to hb⟩
    have H77 : Hid (∀ w', GoodW w1 w' → Calls Tryd.prog 77 #[stV R C a b n k m j, .slice a n k] w' fun e w2 => e = .returned (.int .i64 (outl R C s)) ∧ GoodW w1 w2) := Lib.hid fun w' h => (routline_any R C s a n k (S.map Int.toNat) (by rw [HSL.out]; exact HS1.out.below h) HOP.out.sd HM1.out (by rw [HSL.out]; exact HOP.out.rs.mm) HL25.out).mono fun _ _ ⟨he, hb⟩ => ⟨by rw [he, HO1.out], h.to hb⟩
    have H77b : Hid (∀ x cx w', GoodW w1 w' → IsL w' x (pcN (R * C) (fin R C z s)) cx (li (els (R * C) (fin R C z s))) → Calls Tryd.prog 77 #[stV R C a b n k m j, .slice x (pcN (R * C) (fin R C z s)) cx] w' fun e w2 => e = .returned (.int .i64 (outl R C (fin R C z s))) ∧ GoodW w1 w2) := Lib.hid fun x cx w' h hI => (routline_any R C (fin R C z s) x _ cx _ hI HOP.out.sd (fun i hi => (mem_els.1 hi).1) (fin_mm HFL.out) (by rw [els_len]; have := pcN_le (R * C) (fin R C z s); omega)).mono fun _ _ ⟨he, hb⟩ => ⟨by rw [he, outlL_els]; rfl, h.to hb⟩
    have HG0 : GoodW w1 w1.drew := (Below.refl _ _).drew
    obtain ⟨q, hq⟩ : ∃ q, fin R C z s = q := ⟨_, rfl⟩
    obtain ⟨o1, ho1⟩ : ∃ o, outl R C s = o := ⟨_, rfl⟩
    obtain ⟨o2, ho2⟩ : ∃ o, outl R C q = o := ⟨_, rfl⟩
    rw [hq] at HR2 H57 H77b
    rw [ho1] at HR1 H77
    rw [ho2] at HR2 H77b
    obtain ⟨P, hP⟩ : ∃ P, pcN (R * C) q = P := ⟨_, rfl⟩
    rw [hP] at H57 H77b
    clear hq ho1 ho2 hP HFL HPL HO1 HM1 HSL HL25
    go_wp2_with fail
    go_region_held3 (fun w' => w'.cell? ⟨w.heap.size, 0, none⟩ = some (.int .i64 (R : Int)) ∧ w'.cell? ⟨w.heap.size, 1, none⟩ = some (.int .i64 (C : Int)) ∧ w'.cell? ⟨w.heap.size, 2, none⟩ = some (.slice a n k) ∧ w'.cell? ⟨w.heap.size, 3, none⟩ = some (.slice b m j)) (first | go_keep | exact ⟨hG.cell x0, hG.cell x1, hG.cell x2, hG.cell x3⟩)
      (first
        | ((go_at_call 77; with_reducible refine (H77.out _ ?_).mono ?_; assumption; rintro e w5 ⟨rfl, hG⟩))
        | ((go_at_call 77; with_reducible refine (H77b.out _ _ _ ?_ ?_).mono ?_; assumption; assumption; rintro e w5 ⟨rfl, hG⟩))
        | ((go_at_call 57; with_reducible refine (H57.out _ ?_).mono ?_; assumption; rintro e w5 ⟨xx, cx, rfl, hI, hG⟩)))
    go_wp2_with fail
    refine bodyPost_ret (v := .tuple #[.int .i64 o1, .int .i64 o2, .int .i64 0]) (by simp [results, Tryd.results37, go_sem]) rfl ⟨by rw [HE.out, HR1.out, HR2.out], hb1.trans (hG.mono hb1.size)⟩
  · have t1 : (E != 0) = true := by simpa using h0
    have t2 : (E == 0) = false := by simpa using h0
    have H0 : Hid (openE r c S F ≠ 0) := Lib.hid (by rw [hE]; exact h0)
    clear h0 hE hS hF
    go_enter Tryd.func37, Tryd.ntmps37
    go_wp2_with fail
    refine HC.out.mono ?_
    rintro e w1 ⟨rfl, b1⟩
    rw [HE.out]
    have hb1 := (HB0.out.to b1).below
    clear HC x0 x1 x2 x3 b1 HB0
    go_wp2_with fail
    refine bodyPost_ret (v := .tuple #[.int .i64 0, .int .i64 0, .int .i64 E]) (by simp [results, Tryd.results37, go_sem]) rfl ⟨by rw [HE.out, bad_out1 H0.out, bad_out2 H0.out], hb1⟩
end Go.Proofs.YtbhjphcomppjgaaDoor
