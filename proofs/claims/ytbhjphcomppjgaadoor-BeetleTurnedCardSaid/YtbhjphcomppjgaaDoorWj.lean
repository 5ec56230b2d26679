/- Walks of chapter 9: a store is opened, and asked. -/
import Derived.Test.YtbhjphcomppjgaaDoorWi
namespace Go.Proofs.YtbhjphcomppjgaaDoor
open Go.RowKit Beetle09

/-- A list and an error. -/
def LP (E : Int) (L : List Int) (w : World) : Ending → World → Prop := fun e w' => ∃ a n c, e = .returned (.tuple #[.slice a n c, .int .i64 E]) ∧ IsL w' a n c L ∧ Below w.heap.size w w'
/-- Two numbers and an error. -/
def NNP (E x y : Int) (w : World) : Ending → World → Prop := fun e w' => e = .returned (.tuple #[.int .i64 x, .int .i64 y, .int .i64 E]) ∧ Below w.heap.size w w'
/-- An error. -/
def EP (E : Int) (w : World) : Ending → World → Prop := fun e w' => e = .returned (.int .i64 E) ∧ Below w.heap.size w w'
theorem LP.nil {E E' : Int} {L : List Int} {w w' : World} (h : E = E') (hL : L = []) (hb : Below w.heap.size w w') : LP E L w (.returned (.tuple #[.slice none 0 0, .int .i64 E'])) w' := by
  subst h hL; exact ⟨none, 0, 0, rfl, IsL.nilL _, hb⟩
theorem LP.ok {E : Int} {L M : List Int} {w w' : World} {a : Option Addr} {n c : Nat} (h : E = 0) (hL : L = M) (hI : IsL w' a n c M) (hb : Below w.heap.size w w') : LP E L w (.returned (.tuple #[.slice a n c, .int .i64 0])) w' := by
  subst h hL; exact ⟨a, n, c, rfl, hI, hb⟩
abbrev stV (r c : Int) (a b : Option Addr) (n k m j : Nat) : Value := .agg #[.int .i64 r, .int .i64 c, .slice a n k, .slice b m j]
variable {r c : Int} {S F : List Int} {a b : Option Addr} {n m k j : Nat} {w : World}

set_option maxHeartbeats 4000000 in
set_option maxRecDepth 100000 in
theorem Check_any (hS : IsL w a n k S) (hF : IsL w b m j F) : Calls Tryd.prog 38 #[stV r c a b n k m j] w (EP (openE r c S F) w) := by
  have hal : Below w.heap.size w (w.alloc (.cells #[.int .i64 r, .int .i64 c, .slice a n k, .slice b m j] 24)) := (Below.refl _ _).alloc (Nat.le_refl _) _
  have HC := Lib.hid (opened_any r c S F a b n m k j _ (hS.below hal) (hF.below hal))
  obtain ⟨E, hE⟩ : ∃ E, openE r c S F = E := ⟨_, rfl⟩
  have HE := Lib.hid hE
  clear hE hS hF
  go_enter Tryd.func38, Tryd.ntmps38
  go_wp2_with fail
  refine HC.out.mono ?_
  rintro e w1 ⟨b1, hor⟩
  have k1 := hal.trans (b1.mono hal.size)
  have hs1 := hal.size
  have hb2 := b1.size
  rcases hor with ⟨_, rfl⟩ | ⟨R, C, s, z, g, h0, _, hg, _, rfl⟩
  · clear HC b1
    rw [HE.out]
    go_wp2_with fail
    go_ret
    exact ⟨ret_i HE.out.symm, k1.alloc (by omega) _⟩
  · clear HC b1
    obtain rfl : E = 0 := HE.out.symm.trans h0
    clear h0
    go_wp2_with fail
    go_ret
    exact ⟨ret_i HE.out.symm, k1.alloc (by omega) _⟩
set_option maxHeartbeats 8000000 in
set_option maxRecDepth 100000 in
theorem Spread_any (hS : IsL w a n k S) (hF : IsL w b m j F) (hT : Tab w) : Calls Tryd.prog 32 #[stV r c a b n k m j] w (LP (openE r c S F) (spreadE r c S F) w) := by
  have hal : Below w.heap.size w (w.alloc (.cells #[.int .i64 r, .int .i64 c, .slice a n k, .slice b m j] 24)) := (Below.refl _ _).alloc (Nat.le_refl _) _
  have HC := Lib.hid (opened_any r c S F a b n m k j _ (hS.below hal) (hF.below hal))
  have HT0 := Lib.hid (hT.to hal)
  obtain ⟨E, hE⟩ : ∃ E, openE r c S F = E := ⟨_, rfl⟩
  have HE := Lib.hid hE
  clear hE hS hF hT
  go_enter Tryd.func32, Tryd.ntmps32
  go_wp2_with fail
  refine HC.out.mono ?_
  rintro e w1 ⟨b1, hor⟩
  have HT1 := Lib.hid (HT0.out.to b1)
  have k1 := hal.trans (b1.mono hal.size)
  have hs1 := hal.size
  have hb2 := b1.size
  rcases hor with ⟨h0, rfl⟩ | ⟨R, C, s, z, g, h0, hop, hg, hfl, rfl⟩
  · clear HC b1
    have t1 : (E != 0) = true := by rw [← HE.out]; simpa using h0
    have H0 := Lib.hid h0
    clear h0
    rw [HE.out]
    go_wp2_with fail
    go_ret2
    exact LP.nil HE.out (bad_spread H0.out) (k1.alloc (by omega) _)
  · clear HC b1
    obtain rfl : E = 0 := HE.out.symm.trans h0
    have H0 := Lib.hid h0
    have HOP := Lib.hid hop
    have hs25 := hop.s25
    have hz25 := hop.z25
    have kb := k1.alloc (by omega) (.cells #[.int .u32 (s : Int), .int .u32 (z : Int)] 79)
    have bal : Below w1.heap.size w1 (w1.alloc (.cells #[.int .u32 (s : Int), .int .u32 (z : Int)] 79)) := (Below.refl _ _).alloc (Nat.le_refl _) _
    have HTA := Lib.hid (HT1.out.to bal)
    have HFA : Hid (Flr (w1.alloc (.cells #[.int .u32 (s : Int), .int .u32 (z : Int)] 79)) g R C (nearN C (R * C))) := Lib.hid (ArrV.alloc hfl _)
    clear h0 hfl hop bal
    go_wp2_with fail
    refine (spread_any g R C s z _ HTA.out HOP.out.sd HFA.out HOP.out.rs.lt HOP.out.rz.lt).mono ?_
    rintro e w2 ⟨rfl, b2⟩
    have k2 := kb.trans (b2.mono kb.size)
    have HT2 := Lib.hid (HTA.out.to b2)
    have HF25 := Lib.hid (lt25 (fin_lt (z := z) HOP.out.rs.lt) HOP.out.sd.n25)
    have HR := Lib.hid (HOP.out.spread H0.out)
    rw [← els_top (fin_lt (z := z) HOP.out.rs.lt) HOP.out.sd.n25] at HR
    obtain ⟨q, hq⟩ : ∃ q, fin R C z s = q := ⟨_, rfl⟩
    rw [hq] at HF25 HR ⊢
    clear b2 hq
    go_wp2_with fail
    refine (list_of q _ HT2.out HF25.out).mono ?_
    rintro e w3 ⟨a3, c3, rfl, hO, b3⟩
    go_wp2_with fail
    go_ret2
    exact LP.ok H0.out HR.out hO.isL (k2.trans (b3.mono k2.size))
set_option maxHeartbeats 1000000 in
theorem Clone_any (a : Option Addr) (n c : Nat) (l : List Int) (w : World) (h : IsL w a n c l) (hn : 1 ≤ n) (hs : n ≤ 1000000) : Calls Tryd.prog 46 #[.slice a n c] w fun e w' => ∃ a' c', e = .returned (.slice a' n c') ∧ OwnL w' 3 w.heap.size a' n c' l ∧ Below w.heap.size w w' := by
  obtain ⟨b, o, rfl, hb0, hc⟩ := h.cells (by omega)
  have hB := own_lit w 3 w.heap.size (Nat.le_refl _) ([] : List Int) #[] 0 rfl rfl (by decide)
  have h2 := h.alloc (.cells #[] 3)
  clear hc
  have e1 : (binOp .eql 22 (.slice (some ⟨b, o, none⟩) n c) (.slice none 0 0)).run Tryd.prog w = .ok (.bool false) w := by rw [Lib.run_eql_slice_nil w 22 3 _ _ _ _ _ Tryd.underlying22]; rfl
  go_enter Tryd.func46, Tryd.ntmps46
  go_wp2_with (at_builtin; refine wl_app_own Tryd.underlying22 elem3 w.heap.size (.tmp 5) (.tmp 6) rfl rfl rfl rfl hB h2 (by simp) (by omega) ?_)
  intro a2 c2 w2 ho hg hb2 _
  have hbb := ((Below.refl _ w).alloc (Nat.le_refl _) (.cells #[] 3)).trans hb2
  clear hg hb2
  go_wp2
  go_ret
  exact ⟨_, _, rfl, ho, hbb⟩
/-- What existed is as it was. -/
def GoodW (wb w' : World) : Prop := Below wb.heap.size wb w'
theorem GoodW.to {wb w' w2 : World} (h : GoodW wb w') (hb : Below w'.heap.size w' w2) : GoodW wb w2 := Below.trans h (hb.mono h.size)
theorem GoodW.cell {wb w' : World} (h : GoodW wb w') {p : Addr} {v : Value} (hv : wb.cell? p = some v) : w'.cell? p = some v := (Below.cell h (World.block_lt_of_cell? wb _ hv)).trans hv
set_option maxHeartbeats 8000000 in
set_option maxRecDepth 100000 in
theorem Outline_any (hS : IsL w a n k S) (hF : IsL w b m j F) (hT : Tab w) : Calls Tryd.prog 36 #[stV r c a b n k m j] w (NNP (openE r c S F) (out1E r c S F) (out2E r c S F) w) := by
  have hal : Below w.heap.size w (w.alloc (.cells #[.int .i64 r, .int .i64 c, .slice a n k, .slice b m j] 24)) := (Below.refl _ _).alloc (Nat.le_refl _) _
  have HC := Lib.hid (opened_any r c S F a b n m k j _ (hS.below hal) (hF.below hal))
  have HT0 := Lib.hid (hT.to hal)
  obtain ⟨E, hE⟩ : ∃ E, openE r c S F = E := ⟨_, rfl⟩
  have HE := Lib.hid hE
  clear hE hS hF hT
  go_enter Tryd.func36, Tryd.ntmps36
  go_wp2_with fail
  refine HC.out.mono ?_
  rintro e w1 ⟨b1, hor⟩
  have HT1 := Lib.hid (HT0.out.to b1)
  have k1 := hal.trans (b1.mono hal.size)
  have hs1 := hal.size
  have hb2 := b1.size
  rcases hor with ⟨h0, rfl⟩ | ⟨R, C, s, z, g, h0, hop, hg, hfl, rfl⟩
  · clear HC b1
    have t1 : (E != 0) = true := by rw [← HE.out]; simpa using h0
    have H0 := Lib.hid h0
    clear h0
    rw [HE.out]
    go_wp2_with fail
    refine bodyPost_ret (v := .tuple #[.int .i64 0, .int .i64 0, .int .i64 E]) (by simp [results, Tryd.results36, go_sem]) rfl ⟨by rw [HE.out, bad_out1 H0.out, bad_out2 H0.out], ?_⟩
    exact k1.alloc (by omega) _
  · clear HC b1
    obtain rfl : E = 0 := HE.out.symm.trans h0
    have H0 := Lib.hid h0
    have HOP := Lib.hid hop
    have hs25 := hop.s25
    have hz25 := hop.z25
    have kb := k1.alloc (by omega) (.cells #[.int .u32 (s : Int), .int .u32 (z : Int)] 79)
    have bal : Below w1.heap.size w1 (w1.alloc (.cells #[.int .u32 (s : Int), .int .u32 (z : Int)] 79)) := (Below.refl _ _).alloc (Nat.le_refl _) _
    have HTA := Lib.hid (HT1.out.to bal)
    have HFA : Hid (Flr (w1.alloc (.cells #[.int .u32 (s : Int), .int .u32 (z : Int)] 79)) g R C (nearN C (R * C))) := Lib.hid (ArrV.alloc hfl _)
    clear h0 hfl hop bal
    obtain ⟨wb, hwb⟩ : ∃ wb, wb = w1.alloc (.cells #[.int .u32 (s : Int), .int .u32 (z : Int)] 79) := ⟨_, rfl⟩
    have HST := Lib.hid (ArrV.new (f := VV) w1 #[.int .u32 (s : Int), .int .u32 (z : Int)] 79 [.int .u32 (s : Int), .int .u32 (z : Int)] _ rfl rfl)
    rw [← hwb] at HTA HFA kb HST
    have c0 := val HST.out 0 rfl
    have c1 := val HST.out 1 rfl
    have HS1 := Lib.hid (HOP.out.out1 H0.out)
    have HS2 := Lib.hid (HOP.out.out2 H0.out)
    have HL := Lib.hid (fin_lt (R := R) (C := C) (z := z) HOP.out.rs.lt)
    have H54 : Hid (∀ w', GoodW wb w' → Calls Tryd.prog 54 #[.pointer (some ⟨g, 0, none⟩), .agg #[.int .u32 (s : Int), .int .u32 (z : Int)]] w' fun e w2 => e = .returned (.int .u32 ((fin R C z s : Nat) : Int)) ∧ GoodW wb w2) := Lib.hid fun w' h => (spread_any g R C s z w' (HTA.out.to h) HOP.out.sd (ArrV.below HFA.out h) HOP.out.rs.lt HOP.out.rz.lt).mono fun _ _ ⟨he, hb⟩ => ⟨he, h.to hb⟩
    have H69 : Hid (∀ w', GoodW wb w' → Calls Tryd.prog 69 #[.pointer (some ⟨g, 0, none⟩), .int .u32 (s : Int)] w' fun e w2 => e = .returned (.int .i64 (outl R C s)) ∧ GoodW wb w2) := Lib.hid fun w' h => (outline_any g R C s w' (HTA.out.to h) HOP.out.sd (ArrV.below HFA.out h) HOP.out.rs.lt).mono fun _ _ ⟨he, hb⟩ => ⟨he, h.to hb⟩
    have H69b : Hid (∀ w', GoodW wb w' → Calls Tryd.prog 69 #[.pointer (some ⟨g, 0, none⟩), .int .u32 ((fin R C z s : Nat) : Int)] w' fun e w2 => e = .returned (.int .i64 (outl R C (fin R C z s))) ∧ GoodW wb w2) := Lib.hid fun w' h => (outline_any g R C _ w' (HTA.out.to h) HOP.out.sd (ArrV.below HFA.out h) HL.out).mono fun _ _ ⟨he, hb⟩ => ⟨he, h.to hb⟩
    obtain ⟨q, hq⟩ : ∃ q, fin R C z s = q := ⟨_, rfl⟩
    obtain ⟨o1, ho1⟩ : ∃ o, outl R C s = o := ⟨_, rfl⟩
    obtain ⟨o2, ho2⟩ : ∃ o, outl R C q = o := ⟨_, rfl⟩
    rw [hq] at HS2 H54 H69b
    rw [ho1] at HS1 H69
    rw [ho2] at HS2 H69b
    have HG0 : GoodW wb wb.drew := (Below.refl _ _).drew
    clear hq ho1 ho2 HTA HFA HL HT1 HT0
    go_wp2_with fail
    rw [← hwb]
    clear hwb
    go_region_held3 (fun w' => w'.cell? ⟨w1.heap.size, 0, none⟩ = some (.int .u32 (s : Int)) ∧ w'.cell? ⟨w1.heap.size, 1, none⟩ = some (.int .u32 (z : Int))) (first | go_keep | exact ⟨hG.cell c0, hG.cell c1⟩)
      (first
        | ((go_at_call 69; with_reducible refine (H69.out _ ?_).mono ?_; assumption; rintro e w5 ⟨rfl, hG⟩))
        | ((go_at_call 69; with_reducible refine (H69b.out _ ?_).mono ?_; assumption; rintro e w5 ⟨rfl, hG⟩))
        | ((go_at_call 54; with_reducible refine (H54.out _ ?_).mono ?_; assumption; rintro e w5 ⟨rfl, hG⟩)))
    all_goals
      go_wp2_with fail
      refine bodyPost_ret (v := .tuple #[.int .i64 o1, .int .i64 o2, .int .i64 0]) (by simp [results, Tryd.results36, go_sem]) rfl ⟨by rw [H0.out, HS1.out, HS2.out], kb.trans (hG.mono kb.size)⟩
theorem slice104 (b N : Nat) (w : World) (h : N ≤ 25) (h0 : 0 < N) : (Instr.sliceAt 104 (.pointer (some ⟨b, 0, none⟩)) none (some (.int .i64 (N : Int))) none).run Tryd.prog w = .ok (.slice (some ⟨b, 0, none⟩) N 25) w := by
  have e1 : Tryd.prog.arrayLen 104 = 25 := by kernel_rfl
  have e2 : Tryd.prog.elem 104 = 3 := by kernel_rfl
  obtain ⟨i, hi, hz, hs, hb⟩ := info_parts elem3
  rw [run_sliceAt_array_h w 104 _ (by kernel_rfl) .i64 (N : Int) (by omega) (by rw [e1]; omega), e1, e2, run_sizeOf w hi, cells3]
  simp [slicedAt, sliced, add_lit0]
set_option maxHeartbeats 8000000 in
set_option maxRecDepth 100000 in
theorem Days_any (hS : IsL w a n k S) (hF : IsL w b m j F) (hT : Tab w) : Calls Tryd.prog 34 #[stV r c a b n k m j] w (LP (openE r c S F) (daysE r c S F) w) := by
  have hal : Below w.heap.size w (w.alloc (.cells #[.int .i64 r, .int .i64 c, .slice a n k, .slice b m j] 24)) := (Below.refl _ _).alloc (Nat.le_refl _) _
  have HC := Lib.hid (opened_any r c S F a b n m k j _ (hS.below hal) (hF.below hal))
  have HT0 := Lib.hid (hT.to hal)
  obtain ⟨E, hE⟩ : ∃ E, openE r c S F = E := ⟨_, rfl⟩
  have HE := Lib.hid hE
  clear hE hS hF hT
  go_enter Tryd.func34, Tryd.ntmps34
  go_wp2_with fail
  refine HC.out.mono ?_
  rintro e w1 ⟨b1, hor⟩
  have HT1 := Lib.hid (HT0.out.to b1)
  have k1 := hal.trans (b1.mono hal.size)
  have hs1 := hal.size
  have hb2 := b1.size
  rcases hor with ⟨h0, rfl⟩ | ⟨R, C, s, z, g, h0, hop, hg, hfl, rfl⟩
  · clear HC b1
    have t1 : (E != 0) = true := by rw [← HE.out]; simpa using h0
    have H0 := Lib.hid h0
    clear h0
    rw [HE.out]
    go_wp2_with fail
    go_ret2
    exact LP.nil HE.out (bad_days H0.out) (k1.alloc (by omega) _)
  · clear HC b1
    obtain rfl : E = 0 := HE.out.symm.trans h0
    have H0 := Lib.hid h0
    have HOP := Lib.hid hop
    have hs25 := hop.s25
    have hz25 := hop.z25
    have kb := k1.alloc (by omega) (.cells #[.int .u32 (s : Int), .int .u32 (z : Int)] 79)
    have bal : Below w1.heap.size w1 (w1.alloc (.cells #[.int .u32 (s : Int), .int .u32 (z : Int)] 79)) := (Below.refl _ _).alloc (Nat.le_refl _) _
    have HTA := Lib.hid (HT1.out.to bal)
    have HFA : Hid (Flr (w1.alloc (.cells #[.int .u32 (s : Int), .int .u32 (z : Int)] 79)) g R C (nearN C (R * C))) := Lib.hid (ArrV.alloc hfl _)
    clear h0 hfl hop bal
    go_wp2_with fail
    refine (days_any g R C s z _ HOP.out.sd HFA.out HOP.out.rs.lt HOP.out.rz.lt).mono ?_
    rintro e w2 ⟨rfl, b2⟩
    have k2 := kb.trans (b2.mono kb.size)
    have HF2 : Hid (Flr w2 g R C (nearN C (R * C))) := Lib.hid (ArrV.below HFA.out b2)
    have hn25 := HOP.out.sd.n25
    have hn1 := HOP.out.sd.n1
    have HR : Hid (daysE r c S F = (calA R C z s (R * C)).take (R * C)) := Lib.hid (by rw [HOP.out.days H0.out, calA_take hn25])
    have hcl := calA_len R C z s (R * C)
    generalize calA R C z s (R * C) = M at *
    obtain ⟨N, hN⟩ : ∃ N, R * C = N := ⟨_, rfl⟩
    have HN := Lib.hid hN
    rw [hN] at HR hn25 hn1
    clear b2 hN
    have hM : ((M.map I64).toArray).size = 25 := by simp [hcl]
    have hZ := ArrV.new (f := I64) w2 #[.int .i64 0, .int .i64 0, .int .i64 0, .int .i64 0, .int .i64 0, .int .i64 0, .int .i64 0, .int .i64 0, .int .i64 0, .int .i64 0, .int .i64 0, .int .i64 0, .int .i64 0, .int .i64 0, .int .i64 0, .int .i64 0, .int .i64 0, .int .i64 0, .int .i64 0, .int .i64 0, .int .i64 0, .int .i64 0, .int .i64 0, .int .i64 0, .int .i64 0] 104 (List.replicate 25 0) w2.heap.size rfl rfl
    have hA := hZ.setAll M (by simp [hcl])
    have HTH : Hid ((w2.alloc (.cells #[.int .i64 0, .int .i64 0, .int .i64 0, .int .i64 0, .int .i64 0, .int .i64 0, .int .i64 0, .int .i64 0, .int .i64 0, .int .i64 0, .int .i64 0, .int .i64 0, .int .i64 0, .int .i64 0, .int .i64 0, .int .i64 0, .int .i64 0, .int .i64 0, .int .i64 0, .int .i64 0, .int .i64 0, .int .i64 0, .int .i64 0, .int .i64 0, .int .i64 0] 104)).there w2.heap.size 0 ((M.map I64).toArray).size) := Lib.hid (by rw [hM]; simpa using hZ.there)
    have H1 := Lib.hid (ints_one M)
    have HMS := Lib.hid hM
    have hbs : Below w2.heap.size w2 ((w2.alloc (.cells #[.int .i64 0, .int .i64 0, .int .i64 0, .int .i64 0, .int .i64 0, .int .i64 0, .int .i64 0, .int .i64 0, .int .i64 0, .int .i64 0, .int .i64 0, .int .i64 0, .int .i64 0, .int .i64 0, .int .i64 0, .int .i64 0, .int .i64 0, .int .i64 0, .int .i64 0, .int .i64 0, .int .i64 0, .int .i64 0, .int .i64 0, .int .i64 0, .int .i64 0] 104)).setCells w2.heap.size 0 ((M.map I64).toArray).toList) := ((Below.refl _ _).alloc (Nat.le_refl _) _).grown (grown_setCells _ _ _ _) (by simp) (fun k hk => by cases hk; exact Nat.le_refl _)
    have xb := Flr.bales (R := R) (C := C) (L := nearN C (R * C)) (ArrV.below HF2.out hbs)
    rw [HN.out] at xb
    have k3 := k2.trans (hbs.mono k2.size)
    have HIS : Hid (IsL ((w2.alloc (.cells #[.int .i64 0, .int .i64 0, .int .i64 0, .int .i64 0, .int .i64 0, .int .i64 0, .int .i64 0, .int .i64 0, .int .i64 0, .int .i64 0, .int .i64 0, .int .i64 0, .int .i64 0, .int .i64 0, .int .i64 0, .int .i64 0, .int .i64 0, .int .i64 0, .int .i64 0, .int .i64 0, .int .i64 0, .int .i64 0, .int .i64 0, .int .i64 0, .int .i64 0] 104)).setCells w2.heap.size 0 ((M.map I64).toArray).toList) (some ⟨w2.heap.size, 0, none⟩) 25 25 M) := Lib.hid ⟨hcl, Nat.le_refl _, by decide, (fun h => by cases h), fun _ => ⟨w2.heap.size, 0, rfl, by have := hA.lt; exact this, fun i hi => by rw [Nat.zero_add]; exact hA.cell i 0 (by omega)⟩⟩
    have hsl := fun w' => slice104 w2.heap.size N w' hn25 hn1
    clear hM hZ hA hbs hcl
    go_wp2_with (refine wpList_store_mid rfl 104 _ _ rfl w2.heap.size 0 _ rfl rfl HTH.out (by rw [HMS.out]; exact info104) H1.out ?_)
    refine (Clone_any _ N 25 _ _ (HIS.out.pre N 25 hn25 hn25 (Nat.le_refl _)) hn1 (by omega)).mono ?_
    rintro e w3 ⟨a3, c3, rfl, hO, b3⟩
    go_wp2_with fail
    go_ret2
    exact LP.ok H0.out HR.out hO.isL (k3.trans (b3.mono k3.size))
end Go.Proofs.YtbhjphcomppjgaaDoor
