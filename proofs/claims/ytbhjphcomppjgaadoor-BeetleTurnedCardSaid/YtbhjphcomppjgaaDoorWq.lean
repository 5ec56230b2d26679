/- Walks of chapter 9: blocks. -/
import Derived.Test.YtbhjphcomppjgaaDoorWp
import Derived.BigQuiet
import Derived.Deep.LoopGhost
namespace Go.Proofs.YtbhjphcomppjgaaDoor
open Go.RowKit Beetle09
/-- Blocks and an error. -/
def BP (E : Int) (A : List Q4) (w : World) : Ending → World → Prop := fun e w' => ∃ a n c B, e = .returned (.tuple #[.slice a n c, .int .i64 E]) ∧ OwnQ w' B a n c A ∧ Below w.heap.size w w'
theorem BP.nil {E E' : Int} {A : List Q4} {w w' : World} (h : E = E') (hA : A = []) (hb : Below w.heap.size w w') : BP E A w (.returned (.tuple #[.slice none 0 0, .int .i64 E'])) w' := by
  subst h hA; exact ⟨none, 0, 0, 0, rfl, OwnQ.nilQ _ _, hb⟩
theorem grown_drewN (w : World) (r : Option Nat) (k : Nat) : w.grownBy (w.drewN k) r := ⟨rfl, rfl, rfl, Nat.le_refl _, fun _ _ _ => rfl⟩
/-- The corners of a block while they are sought, in a block of memory. -/
structure CoS (W wr : World) (gx r c x y : Nat) : Prop where
  arr : ArrV iN wr gx 55 [r, c, x, y]
  gr : W.grownBy wr (some gx)
theorem CoS.drewN {W wr : World} {gx r c x y : Nat} (h : CoS W wr gx r c x y) (k : Nat) : CoS W (wr.drewN k) gx r c x y := ⟨h.arr.drewN k, grown_trans h.gr (grown_drewN _ _ _)⟩
theorem CoS.down {W wr : World} {gx r c x y : Nat} (h : CoS W wr gx r c x y) (v : Nat) : CoS W (wr.setCell ⟨gx, 2, none⟩ (.int .i64 (v : Int))) gx r c v y := ⟨h.arr.set 2 v, grown_trans h.gr (grown_setCell _ _ _ _)⟩
theorem CoS.right {W wr : World} {gx r c x y : Nat} (h : CoS W wr gx r c x y) (v : Nat) : CoS W (wr.setCell ⟨gx, 3, none⟩ (.int .i64 (v : Int))) gx r c x v := ⟨h.arr.set 3 v, grown_trans h.gr (grown_setCell _ _ _ _)⟩
theorem CoS.cells {W wr : World} {gx r c x y : Nat} (h : CoS W wr gx r c x y) : wr.cell? ⟨gx, 0, none⟩ = some (.int .i64 (r : Int)) ∧ wr.cell? ⟨gx, 1, none⟩ = some (.int .i64 (c : Int)) ∧ wr.cell? ⟨gx, 2, none⟩ = some (.int .i64 (x : Int)) ∧ wr.cell? ⟨gx, 3, none⟩ = some (.int .i64 (y : Int)) :=
  ⟨h.arr.cell 0 0 (by simp), h.arr.cell 1 0 (by simp), h.arr.cell 2 0 (by simp), h.arr.cell 3 0 (by simp)⟩
theorem OwnQ.kept {w w' : World} {B : Nat} {a : Option Addr} {n c gx : Nat} {A : List Q4} (h : OwnQ w B a n c A) (hg : w.grownBy w' (some gx)) (hne : ∀ x, a = some x → x.block ≠ gx) : OwnQ w' B a n c A := by
  refine World.ownsRow.kept h hg ?_
  cases a with
  | none => exact .inl rfl
  | some x => right; have := hne x rfl; simp [Value.ownBlock]; exact this
variable {r c : Int} {S F : List Int} {a b : Option Addr} {n m k j : Nat} {w : World}
set_option maxHeartbeats 8000000 in
set_option maxRecDepth 100000 in
theorem Blocks_any (hS : IsL w a n k S) (hF : IsL w b m j F) (hT : Tab w) : Calls Tryd.prog 18 #[stV r c a b n k m j] w (BP (blkE r c S F) (blkL r c S F) w) := by
  have hal : Below w.heap.size w (w.alloc (.cells #[.int .i64 r, .int .i64 c, .slice a n k, .slice b m j] 24)) := (Below.refl _ _).alloc (Nat.le_refl _) _
  have HC := Lib.hid (opened_any r c S F a b n m k j _ (hS.below hal) (hF.below hal))
  have HT0 := Lib.hid (hT.to hal)
  obtain ⟨E, hE⟩ : ∃ E, openE r c S F = E := ⟨_, rfl⟩
  have HE := Lib.hid hE
  clear hE hS hF hT
  go_enter Tryd.func18, Tryd.ntmps18
  go_wp2_with fail
  refine HC.out.mono ?_
  rintro e w1 ⟨b1, hor⟩
  have HT1 := Lib.hid (HT0.out.to b1)
  have k1 := hal.trans (b1.mono hal.size)
  have hs1 := hal.size
  have hb2 := b1.size
  rcases hor with ⟨h0, rfl⟩ | ⟨R, C, s, z, g, h0, hop, hg, hfl, rfl⟩
  · clear HC b1
    have t1 : (E != 0) = true := by rw [← HE.out]; simpa using h0
    have H0 := Lib.hid h0
    clear h0
    rw [HE.out]
    go_wp2_with fail
    go_ret2
    exact BP.nil (by rw [(bad_blk H0.out).1, HE.out]) (bad_blk H0.out).2 (k1.alloc (by omega) _)
  · clear HC b1
    obtain rfl : E = 0 := HE.out.symm.trans h0
    have H0 := Lib.hid h0
    have HOP := Lib.hid hop
    have hs25 := hop.s25
    have hz25 := hop.z25
    have kb := k1.alloc (by omega) (.cells #[.int .u32 (s : Int), .int .u32 (z : Int)] 79)
    have bal : Below w1.heap.size w1 (w1.alloc (.cells #[.int .u32 (s : Int), .int .u32 (z : Int)] 79)) := (Below.refl _ _).alloc (Nat.le_refl _) _
    have HTA := Lib.hid (HT1.out.to bal)
    have HFA : Hid (Flr (w1.alloc (.cells #[.int .u32 (s : Int), .int .u32 (z : Int)] 79)) g R C (nearN C (R * C))) := Lib.hid (ArrV.alloc hfl _)
    clear h0 hfl hop bal
    obtain ⟨wb, hwb⟩ : ∃ wb, wb = w1.alloc (.cells #[.int .u32 (s : Int), .int .u32 (z : Int)] 79) := ⟨_, rfl⟩
    have HST := Lib.hid (ArrV.new (f := VV) w1 #[.int .u32 (s : Int), .int .u32 (z : Int)] 79 [.int .u32 (s : Int), .int .u32 (z : Int)] _ rfl rfl)
    rw [← hwb] at HTA HFA kb HST
    have c0 := val HST.out 0 rfl
    have c1 := val HST.out 1 rfl
    obtain ⟨hR1, hR2⟩ := HOP.out.blk H0.out
    have hn25 := HOP.out.sd.n25
    have hRR := HOP.out.sd.r5
    have hCC := HOP.out.sd.c5
    have hC1 := HOP.out.sd.c1
    have hkb := kb.size
    clear HT0 HT1
    by_cases hz0 : z = 0
    · subst hz0
      rw [if_pos rfl] at hR1 hR2
      have HE1 := Lib.hid hR1
      have HR := Lib.hid hR2
      have t0 : (((0 : Nat) : Int) != 0) = false := by decide
      have HQL := Lib.hid (fin_lt (z := 0) HOP.out.rs.lt)
      have hwb2 : wb = w1.alloc (.cells #[.int .u32 (s : Int), .int .u32 0] 79) := hwb
      have HC54 : Hid (Calls Tryd.prog 54 #[.pointer (some ⟨g, 0, none⟩), .agg #[.int .u32 (s : Int), .int .u32 0]] wb fun e w' => e = .returned (.int .u32 ((fin R C 0 s : Nat) : Int)) ∧ Below wb.heap.size wb w') := Lib.hid (spread_any g R C s 0 wb HTA.out HOP.out.sd HFA.out HOP.out.rs.lt (Nat.two_pow_pos _))
      obtain ⟨q0, hq0⟩ : ∃ q, fin R C 0 s = q := ⟨_, rfl⟩
      rw [hq0] at HR HQL HC54
      have HP26 : Hid (pcN 25 q0 < 26) := Lib.hid (Nat.lt_succ_of_le (pcN_le _ _))
      clear hR1 hR2 hq0
      go_wp2_with fail
      rw [← hwb2]
      refine HC54.out.mono ?_
      rintro e w2 ⟨rfl, b2⟩
      have hz2 := b2.size
      have HG2 : Hid (GoodW wb w2) := Lib.hid b2
      clear hwb hwb2 HC54 b2
      go_wp2_with fail
      go_loopw [8, 7] (fun vl vo wr => ∃ (l f n2 : Nat) (ao : Option Addr) (co : Nat) (done : List Q4), vl = .int .u32 (l : Int) ∧ vo = .slice ao n2 co ∧ n2 + f ≤ 26 ∧ Hid (blksF R C 26 q0 = done ++ blksF R C f l ∧ pcN 25 l < f ∧ l < 2 ^ (R * C)) ∧ Hid (OwnQ wr wb.heap.size ao n2 co done) ∧ Hid (GoodW wb wr)) (fun vl _ _ => pcN 25 (intOf vl).toNat)
      case atStart => exact ⟨q0, 26, 0, none, 0, [], rfl, rfl, by omega, Lib.hid ⟨rfl, HP26.out, HQL.out⟩, Lib.hid (OwnQ.nilQ _ _), HG2⟩
      case round =>
        clear HG2
        obtain ⟨l, f, n2, ao, co, done, rfl, rfl, hnf, hI, hO, hG⟩ := hrel
        obtain ⟨W0, rfl⟩ : ∃ W, W = wr := ⟨_, rfl⟩
        have hsz0 := Below.size hG.out
        by_cases hl0 : l = 0
        · subst hl0
          have e1 : (((0 : Nat) : Int) != 0) = false := by decide
          have HD : Hid (blkL r c S F = done) := Lib.hid (by rw [HR.out, hI.out.1, blksF_zero, List.append_nil])
          go_wp2_with fail
          go_ret2
          exact ⟨_, _, _, _, by rw [HE1.out]; rfl, by rw [HD.out]; exact hO.out, kb.trans (Below.mono hG.out hkb)⟩
        · have h0' : 0 < l := by omega
          have e1 : ((l : Int) != 0) = true := by simp; omega
          obtain ⟨hI1, hI2, hI3⟩ := hI.out
          have hl25 := lt25 hI3 hn25
          have hl32 : l < 4294967296 := Nat.lt_of_lt_of_le hl25 (by decide)
          obtain ⟨hb1, _, _, _⟩ := low_spec h0' hl32
          obtain ⟨ff, rfl⟩ : ∃ ff, f = ff + 1 := ⟨f - 1, by omega⟩
          rw [blksF_succ hl0] at hI1
          have HC55 := Lib.hid (tz_any l W0 (HTA.out.to hG.out) h0' hl32)
          obtain ⟨fi, hfi⟩ : ∃ fi, Lib.ctz 32 l = fi := ⟨_, rfl⟩
          rw [hfi] at hb1 hI1 HC55
          have hfN := bit_lt hI3 hb1
          have hfi25 : fi < 25 := by omega
          obtain ⟨rr, hrr⟩ : ∃ q, fi / C = q := ⟨_, rfl⟩
          obtain ⟨tt, htt⟩ : ∃ q, fi % C = q := ⟨_, rfl⟩
          have f1 : (fi : Int) / (C : Int) = (rr : Int) := by rw [← hrr]; simp
          have f2 : (fi : Int) % (C : Int) = (tt : Int) := by rw [← htt]; simp
          have f3 : ((C : Int) == 0) = false := by simp; omega
          have f4 : (0 : Int) < (C : Int) := by omega
          have f5 : ¬ (C : Int) = 0 := by omega
          have hrR : rr < R := by rw [← hrr]; exact (Nat.div_lt_iff_lt_mul (by omega)).2 hfN
          have htC : tt < C := by rw [← htt]; exact Nat.mod_lt _ (by omega)
          have hfe : fi = rr * C + tt := by rw [← hrr, ← htt, Nat.mul_comm]; exact (Nat.div_add_mod fi C).symm
          have hbk : blkAt R C l fi = (rr, tt, ext (dnP R C l tt) 5 rr, ext (rtP C l rr) 5 tt) := by unfold blkAt; rw [hrr, htt]
          rw [hbk] at hI1
          have HI1 := Lib.hid hI1
          have HFE := Lib.hid hfe
          have HBB := Lib.hid hb1
          have HI2 := Lib.hid hI2
          have HI3 := Lib.hid hI3
          have xc := Flr.cols (R := R) (C := C) (ArrV.below HFA.out hG.out)
          clear hI1 hI2 hI3 hI hfi hrr htt hfe hbk hb1 hl0 hfN
          go_wp2_with fail
          refine HC55.out.mono ?_
          rintro e w3 ⟨rfl, rfl⟩
          go_wp2_with fail
          go_quiet (fail)
          simp only [f2]
          clear f1 f2 xc HC55
          obtain ⟨W1, hW1⟩ : ∃ W1, W0.drewN nq = W1 := ⟨_, rfl⟩
          have hb01 : Below W0.heap.size W0 W1 := by rw [← hW1]; exact belowN (Below.refl _ _) _
          rw [hW1]
          have hO1 := hO.out.below hb01
          have hG1 := hG.out.to hb01
          have hsz1 := Below.size hG1
          clear hW1 hb01 hO hG
          have hal : Below W1.heap.size W1 (W1.alloc (.cells #[.int .i64 (rr : Int), .int .i64 (tt : Int), .int .i64 (rr : Int), .int .i64 (tt : Int)] 55)) := (Below.refl _ _).alloc (Nat.le_refl _) _
          have HCO : Hid (CoS (W1.alloc (.cells #[.int .i64 (rr : Int), .int .i64 (tt : Int), .int .i64 (rr : Int), .int .i64 (tt : Int)] 55)) (W1.alloc (.cells #[.int .i64 (rr : Int), .int .i64 (tt : Int), .int .i64 (rr : Int), .int .i64 (tt : Int)] 55)) W1.heap.size rr tt rr tt) := Lib.hid ⟨ArrV.new _ _ _ _ _ rfl rfl, World.grownBy.refl _ _⟩
          have HO2 := Lib.hid (hO1.below hal)
          have HG2 := Lib.hid (hG1.to hal)
          have HLT : Hid (∀ x, ao = some x → x.block ≠ W1.heap.size) := Lib.hid fun x hx => by
            rcases Nat.eq_zero_or_pos n2 with h | h
            · subst h
              rcases hO1.2 with ⟨hv, _⟩ | ⟨g', cap, cur, hv, hg', hh, _⟩
              · simp only [Value.slice.injEq] at hv
                rw [hv.1] at hx; cases hx
              · simp only [Value.slice.injEq] at hv
                rw [hv.1] at hx
                have := (Array.getElem?_eq_some_iff.1 hh).1
                obtain rfl := Option.some.inj hx
                simp only []; omega
            · obtain ⟨g', hg1, _, hg3⟩ := hO1.addr h
              rw [hg1] at hx
              obtain rfl := Option.some.inj hx
              simp only []; omega
          have hgx : g < W1.heap.size := Nat.lt_of_lt_of_le (ArrV.lt HFA.out) hsz1
          have hgl : wb.heap.size ≤ W1.heap.size := hsz1
          clear hal hO1 hG1
          generalize hWW : (W1.alloc (.cells #[.int .i64 (rr : Int), .int .i64 (tt : Int), .int .i64 (rr : Int), .int .i64 (tt : Int)] 55)) = W2 at *
          have hW2 : W2.heap.size = W1.heap.size + 1 := by rw [← hWW]; simp
          go_wp2_with fail
          try rw [hWW]
          clear hWW
          generalize hgx0 : W1.heap.size = gx at *
          clear hgx0
          go_loopg [] 5 (fun gk wr => ∃ x f : Nat, f = gk ∧ x + f = rr + 5 ∧ x < R ∧ rr ≤ x ∧ Hid (ext (dnP R C l tt) 5 rr = ext (dnP R C l tt) f x) ∧ Hid (CoS W2 wr gx rr tt x tt))
          case atStart => exact ⟨rr, 5, rfl, by omega, hrR, Nat.le_refl _, Lib.hid rfl, HCO⟩
          case round =>
            clear HCO
            obtain ⟨x, fx, rfl, hxf, hxR, hrx, hX, hS⟩ := hrel
            obtain ⟨y0, y1, y2, y3⟩ := hS.out.cells
            have hFl : Flr wr g R C (nearN C (R * C)) := (hS.out.gr.block g (by omega) (by simp; omega)).trans (ArrV.below HFA.out HG2.out)
            have xr := Flr.rows hFl
            have xc := Flr.cols hFl
            have w1' : IntKind.i64.wrap ((x : Int) + 1) = (x : Int) + 1 := IntWalk.i64_in _ (by omega)
            obtain ⟨fx', rfl⟩ : ∃ q, fx = q + 1 := ⟨fx - 1, by omega⟩
            by_cases hx1 : x + 1 < R
            · have d1 : decide ((x : Int) + 1 < (R : Int)) = true := by simp; omega
              have d2 : (x : Int) + 1 < (R : Int) := by omega
              obtain ⟨M, hM⟩ : ∃ M, (x + 1) * C = M := ⟨_, rfl⟩
              have hMb : M ≤ 25 := by rw [← hM]; exact Nat.le_trans (Nat.mul_le_mul (by omega : x + 1 ≤ 5) hCC) (by decide)
              have m1 : ((x : Int) + 1) * (C : Int) = (M : Int) := by rw [← hM]; simp
              obtain ⟨nn, hnn⟩ : ∃ nn, M + tt = nn := ⟨_, rfl⟩
              have hnN : nn < R * C := by rw [← hnn, ← hM]; exact rc_lt htC hx1
              obtain ⟨B, hB⟩ : ∃ B, l.testBit nn = B := ⟨_, rfl⟩
              have HDP : Hid (dnP R C l tt (x + 1) = B) := Lib.hid (by unfold dnP at'; rw [hM, hnn, hB]; simp [hx1])
              have HC56 : Hid (∀ q, Calls Tryd.prog 56 #[.int .u32 (l : Int), .int .i64 (nn : Int)] (wr.drewN q) fun e w' => e = .returned (.bool B) ∧ w' = wr.drewN q) := Lib.hid fun q => (has_any l nn _ hl32 (by omega) B hB).mono fun _ _ h => ⟨h.1, h.2.symm⟩
              have w2' : IntKind.i64.wrap (M : Int) = (M : Int) := IntWalk.i64_in _ (by omega)
              have w3' : IntKind.i64.wrap ((M : Int) + (tt : Int)) = (nn : Int) := (IntWalk.i64_in _ (by omega)).trans (by omega)
              clear hM hnn hB hFl
              cases B with
              | true =>
                have HX2 : Hid (ext (dnP R C l tt) 5 rr = ext (dnP R C l tt) fx' (x + 1)) := Lib.hid (by rw [hX.out, ext_yes HDP.out])
                have HS2 : Hid (∀ q, CoS W2 ((wr.drewN q).setCell ⟨gx, 2, none⟩ (.int .i64 ((x : Int) + 1))) gx rr tt (x + 1) tt) := Lib.hid fun q => (hS.out.drewN q).down (x + 1)
                have fr2 := hS.out.arr.frozen 2
                go_wp2_with fail
                go_quiet ((go_at_call 56; exact Calls.quiet_of_same (HC56.out _)))
                go_wp2
                go_roundg (fx')
                case measure => omega
                case rel => exact ⟨x + 1, fx', rfl, by omega, hx1, by omega, HX2, Lib.hid (HS2.out _)⟩
              | false =>
                have HX2 : Hid (ext (dnP R C l tt) 5 rr = x) := Lib.hid (by rw [hX.out, ext_no HDP.out])
                go_wp2_with fail
                go_quiet ((go_at_call 56; exact Calls.quiet_of_same (HC56.out _)))
                go_wp2
                clear m1 w2' w3' HC56 HDP
                have hS2 : Hid (CoS W2 (wr.drewN nq) gx rr tt x tt) := Lib.hid (hS.out.drewN nq)
                obtain ⟨Wx, hWx⟩ : ∃ Wx, wr.drewN nq = Wx := ⟨_, rfl⟩
                rw [hWx] at hS2 ⊢
                clear hWx hS hX y0 y1 y2 y3 xr xc w1' d1 d2
                go_loopg [] 5 (fun gk wr => ∃ y f : Nat, f = gk ∧ y + f = tt + 5 ∧ y < C ∧ tt ≤ y ∧ Hid (ext (rtP C l rr) 5 tt = ext (rtP C l rr) f y) ∧ Hid (CoS W2 wr gx rr tt x y))
                case atStart => exact ⟨tt, 5, rfl, by omega, htC, Nat.le_refl _, Lib.hid rfl, hS2⟩
                case round =>
                  clear hS2
                  obtain ⟨y, fy, rfl, hyf, hyC, hty, hY, hS⟩ := hrel
                  obtain ⟨y0, y1, y2, y3⟩ := hS.out.cells
                  have hFl : Flr wr g R C (nearN C (R * C)) := (hS.out.gr.block g (by omega) (by simp; omega)).trans (ArrV.below HFA.out HG2.out)
                  have xc := Flr.cols hFl
                  have w1' : IntKind.i64.wrap ((y : Int) + 1) = (y : Int) + 1 := IntWalk.i64_in _ (by omega)
                  obtain ⟨fy', rfl⟩ : ∃ q, fy = q + 1 := ⟨fy - 1, by omega⟩
                  by_cases hy1 : y + 1 < C
                  · have d1 : decide ((y : Int) + 1 < (C : Int)) = true := by simp; omega
                    have d2 : (y : Int) + 1 < (C : Int) := by omega
                    obtain ⟨M, hM⟩ : ∃ M, rr * C = M := ⟨_, rfl⟩
                    have hMb : M ≤ 25 := by rw [← hM]; exact Nat.le_trans (Nat.mul_le_mul (by omega : rr ≤ 5) hCC) (by decide)
                    have m1 : (rr : Int) * (C : Int) = (M : Int) := by rw [← hM]; simp
                    obtain ⟨my, hmy⟩ : ∃ my, M + y = my := ⟨_, rfl⟩
                    obtain ⟨nn, hnn⟩ : ∃ nn, M + (y + 1) = nn := ⟨_, rfl⟩
                    have hnN : nn < R * C := by rw [← hnn, ← hM]; exact rc_lt hy1 hrR
                    obtain ⟨B, hB⟩ : ∃ B, l.testBit nn = B := ⟨_, rfl⟩
                    have HDP : Hid (rtP C l rr (y + 1) = B) := Lib.hid (by unfold rtP at'; rw [hM, hnn, hB]; simp [hy1])
                    have HC56 : Hid (∀ q, Calls Tryd.prog 56 #[.int .u32 (l : Int), .int .i64 (nn : Int)] (wr.drewN q) fun e w' => e = .returned (.bool B) ∧ w' = wr.drewN q) := Lib.hid fun q => (has_any l nn _ hl32 (by omega) B hB).mono fun _ _ h => ⟨h.1, h.2.symm⟩
                    have w2' : IntKind.i64.wrap (M : Int) = (M : Int) := IntWalk.i64_in _ (by omega)
                    have w3' : IntKind.i64.wrap ((M : Int) + (y : Int)) = (my : Int) := (IntWalk.i64_in _ (by omega)).trans (by omega)
                    have w4' : IntKind.i64.wrap ((my : Int) + 1) = (nn : Int) := (IntWalk.i64_in _ (by omega)).trans (by omega)
                    clear hM hnn hmy hB hFl
                    cases B with
                    | true =>
                      have HY2 : Hid (ext (rtP C l rr) 5 tt = ext (rtP C l rr) fy' (y + 1)) := Lib.hid (by rw [hY.out, ext_yes HDP.out])
                      have HS2 : Hid (∀ q, CoS W2 ((wr.drewN q).setCell ⟨gx, 3, none⟩ (.int .i64 ((y : Int) + 1))) gx rr tt x (y + 1)) := Lib.hid fun q => (hS.out.drewN q).right (y + 1)
                      have fr2 := hS.out.arr.frozen 3
                      go_wp2_with fail
                      go_quiet ((go_at_call 56; exact Calls.quiet_of_same (HC56.out _)))
                      go_wp2
                      go_roundg (fy')
                      case measure => omega
                      case rel => exact ⟨y + 1, fy', rfl, by omega, hy1, by omega, HY2, Lib.hid (HS2.out _)⟩
                    | false =>
                      have HY2 : Hid (ext (rtP C l rr) 5 tt = y) := Lib.hid (by rw [hY.out, ext_no HDP.out])
                      go_wp2_with fail
                      go_quiet ((go_at_call 56; exact Calls.quiet_of_same (HC56.out _)))
                      have hS3 : Hid (CoS W2 (wr.drewN nq) gx rr tt x y) := Lib.hid (hS.out.drewN nq)
                      clear hS hY y0 y1 y2 y3 xc w1' w2' w3' w4' m1 d1 d2 HC56 HDP
                      have hS4 := hS3
                      clear hS3
                      have HX3 := HX2
                      obtain ⟨W3, hW3⟩ : ∃ W3, wr.drewN nq = W3 := ⟨_, rfl⟩
                      rw [hW3] at hS4 ⊢
                      clear hW3
                      obtain ⟨y0, y1, y2, y3⟩ := hS4.out.cells
                      have hFl : Flr W3 g R C (nearN C (R * C)) := (hS4.out.gr.block g (by omega) (by simp; omega)).trans (ArrV.below HFA.out HG2.out)
                      have xc := Flr.cols hFl
                      have hcb := Below.size HG2.out
                      have hG3 : GoodW wb W3 := Below.grown HG2.out hS4.out.gr hcb (fun k hk => by cases hk; exact hgl)
                      have HG3 := Lib.hid hG3
                      have HO3 : Hid (OwnQ W3 wb.heap.size ao n2 co done) := Lib.hid (HO2.out.kept hS4.out.gr HLT.out)
                      have hz3 := Below.size hG3
                      have hxx : x < R := hxR
                      have hyy : y < C := hyC
                      clear hFl hG3 hS4
                      go_wp2_with fail
                      go_loopw [13, 8] (fun vr vl wr => ∃ (i l2 : Nat), rr ≤ i ∧ i ≤ x + 1 ∧ vr = .int .i64 (i : Int) ∧ vl = .int .u32 (l2 : Int) ∧ Hid (cutQ R C l rr tt x y i tt = l2) ∧ W3 = wr) (fun vr _ _ => x + 1 - (intOf vr).toNat)
                      case atStart => exact ⟨rr, l, by omega, by omega, rfl, rfl, Lib.hid (cutQ_start HI3.out), rfl⟩
                      case round =>
                        obtain ⟨i, l2, hri, hix, rfl, rfl, hQ, rfl⟩ := hrel
                        by_cases hi : i ≤ x
                        · have p0 : (i : Int) ≤ (x : Int) := by omega
                          obtain ⟨M, hM⟩ : ∃ M, i * C = M := ⟨_, rfl⟩
                          have hMb : M ≤ 25 := by rw [← hM]; exact Nat.le_trans (Nat.mul_le_mul (by omega : i ≤ 5) hCC) (by decide)
                          have m1 : (i : Int) * (C : Int) = (M : Int) := by rw [← hM]; simp
                          have HM := Lib.hid hM
                          clear hM
                          go_wp2_with fail
                          go_loopw [14, 8] (fun vc vl wr => ∃ (jj l3 : Nat), tt ≤ jj ∧ jj ≤ y + 1 ∧ vc = .int .i64 (jj : Int) ∧ vl = .int .u32 (l3 : Int) ∧ Hid (cutQ R C l rr tt x y i jj = l3) ∧ W3 = wr) (fun vc _ _ => y + 1 - (intOf vc).toNat)
                          case atStart => exact ⟨tt, l2, by omega, by omega, rfl, rfl, hQ, rfl⟩
                          case round =>
                            clear hQ
                            obtain ⟨jj, l3, htj, hjy, rfl, rfl, hQ, rfl⟩ := hrel
                            by_cases hj : jj ≤ y
                            · have p1 : (jj : Int) ≤ (y : Int) := by omega
                              obtain ⟨nn, hnn⟩ : ∃ nn, M + jj = nn := ⟨_, rfl⟩
                              have hnN : nn < R * C := by rw [← hnn, ← HM.out]; exact rc_lt (by omega) (by omega)
                              have m2 : (M : Int) + (jj : Int) = (nn : Int) := by omega
                              obtain ⟨V, hV, hV1, g1, g2, g3⟩ := pow_facts nn (by omega)
                              have hl3 : l3 < 4294967296 := by rw [← hQ.out]; exact Nat.lt_of_lt_of_le (lt25 (cutQ_lt _ _ _ _ _ _ _ _ _) hn25) (by decide)
                              obtain ⟨d, hd⟩ : ∃ d, del l3 nn = d := ⟨_, rfl⟩
                              have g4 : bits .andNot .u32 (l3 : Int) (V : Int) = (d : Int) := by rw [u32_andNot_nat l3 V hl3 (by omega), ← hd, del, hV]
                              have HQ2 : Hid (cutQ R C l rr tt x y i (jj + 1) = d) := Lib.hid (by rw [← cutQ_del hn25 ⟨hri, hi, hxx⟩ ⟨htj, hj, hyy⟩, hQ.out, HM.out, hnn, hd])
                              clear hnn hV hd hQ
                              go_wp2_with fail
                              go_roundw
                              case rel => first | exact ⟨jj + 1, d, by omega, by omega, by go_num, rfl, HQ2, by first | trivial | rfl⟩ | ((repeat apply Exists.intro); exact ⟨⟨jj + 1, d, by omega, by omega, by go_num, rfl, HQ2, by first | trivial | rfl⟩, rfl⟩)
                              case measure => (simp [intOf] <;> omega)
                            · obtain rfl : jj = y + 1 := by omega
                              have HQ2 : Hid (cutQ R C l rr tt x y (i + 1) tt = l3) := Lib.hid (by rw [← cutQ_row]; exact hQ.out)
                              have p1 : ¬ ((y : Int) + 1) ≤ (y : Int) := by omega
                              go_wp2_with fail
                              go_roundw
                              case rel => first | exact ⟨i + 1, l3, by omega, by omega, by go_num, rfl, HQ2, by first | trivial | rfl⟩ | ((repeat apply Exists.intro); exact ⟨⟨i + 1, l3, by omega, by omega, by go_num, rfl, HQ2, by first | trivial | rfl⟩, rfl⟩)
                              case measure => (simp [intOf] <;> omega)
                        · obtain rfl : i = x + 1 := by omega
                          have p1 : ¬ ((x : Int) + 1) ≤ (x : Int) := by omega
                          have HL2 : Hid (cutS R C l rr tt x y = l2) := Lib.hid (by rw [← cutQ_end]; exact hQ.out)
                          have HI4 : Hid (blksF R C 26 q0 = (done ++ [(rr, tt, x, y)]) ++ blksF R C ff l2 ∧ pcN 25 l2 < ff ∧ l2 < 2 ^ (R * C)) := Lib.hid (by
                            have hlt := cut_fewer (R := R) (C := C) (s := l) (r := rr) (c := tt) (x := x) (y := y) (rc_lt htC hrR) hn25 htC (by rw [← HFE.out]; exact HBB.out) hrx hty
                            rw [HL2.out] at hlt
                            refine ⟨?_, by have := HI2.out; omega, by rw [← HL2.out]; exact cut_lt _ _ _ _ _ _ _⟩
                            rw [HI1.out, HX3.out, HY2.out, cut4]
                            show done ++ (rr, tt, x, y) :: blksF R C ff (cutS R C l rr tt x y) = _
                            rw [HL2.out]; simp)
                          have HME : Hid (pcN 25 l2 < pcN 25 l) := Lib.hid (by
                            have hlt := cut_fewer (R := R) (C := C) (s := l) (r := rr) (c := tt) (x := x) (y := y) (rc_lt htC hrR) hn25 htC (by rw [← HFE.out]; exact HBB.out) hrx hty
                            rw [HL2.out] at hlt; exact hlt)
                          clear hQ
                          go_wp2_with (at_builtin; refine wl_app_quad wb.heap.size (.tmp 132) (.tmp 134) rfl rfl rfl rfl (HO3.out.below ((Below.refl _ _).alloc (Nat.le_refl _) _)) (rr, tt, x, y) (by simp [go_sem]) (by simp [go_sem]) (by simp [go_sem]) (by simp [go_sem]) (by simp; omega) (by omega) ?_)
                          intro a5 c5 w5 ho5 hg5 hb5
                          have HO5 := Lib.hid ho5
                          have HG5 : Hid (GoodW wb w5) := Lib.hid ((Below.alloc HG3.out hz3 _).trans hb5)
                          clear ho5 hg5 hb5
                          go_wp2_with fail
                          go_roundw
                          case rel => first | exact ⟨l2, ff, n2 + 1, a5, c5, done ++ [(rr, tt, x, y)], rfl, rfl, by omega, HI4, HO5, HG5⟩ | ((repeat apply Exists.intro); exact ⟨⟨l2, ff, n2 + 1, a5, c5, done ++ [(rr, tt, x, y)], rfl, rfl, by omega, HI4, HO5, HG5⟩, rfl⟩)
                          case measure => (simp [intOf]; exact HME.out)
                  · have d1 : decide ((y : Int) + 1 < (C : Int)) = false := by simp; omega
                    have d2 : ¬ (y : Int) + 1 < (C : Int) := by omega
                    have HY2 : Hid (ext (rtP C l rr) 5 tt = y) := Lib.hid (by rw [hY.out, ext_no (by unfold rtP; simp [hy1])])
                    clear hFl
                    go_wp2_with fail
                    go_quiet (fail)
                    have hS3 : Hid (CoS W2 (wr.drewN nq) gx rr tt x y) := Lib.hid (hS.out.drewN nq)
                    clear hS hY y0 y1 y2 y3 xc w1' d1 d2
                    have hS4 := hS3
                    clear hS3
                    have HX3 := HX2
                    obtain ⟨W3, hW3⟩ : ∃ W3, wr.drewN nq = W3 := ⟨_, rfl⟩
                    rw [hW3] at hS4 ⊢
                    clear hW3
                    obtain ⟨y0, y1, y2, y3⟩ := hS4.out.cells
                    have hFl : Flr W3 g R C (nearN C (R * C)) := (hS4.out.gr.block g (by omega) (by simp; omega)).trans (ArrV.below HFA.out HG2.out)
                    have xc := Flr.cols hFl
                    have hcb := Below.size HG2.out
                    have hG3 : GoodW wb W3 := Below.grown HG2.out hS4.out.gr hcb (fun k hk => by cases hk; exact hgl)
                    have HG3 := Lib.hid hG3
                    have HO3 : Hid (OwnQ W3 wb.heap.size ao n2 co done) := Lib.hid (HO2.out.kept hS4.out.gr HLT.out)
                    have hz3 := Below.size hG3
                    have hxx : x < R := hxR
                    have hyy : y < C := hyC
                    clear hFl hG3 hS4
                    go_wp2_with fail
                    go_loopw [13, 8] (fun vr vl wr => ∃ (i l2 : Nat), rr ≤ i ∧ i ≤ x + 1 ∧ vr = .int .i64 (i : Int) ∧ vl = .int .u32 (l2 : Int) ∧ Hid (cutQ R C l rr tt x y i tt = l2) ∧ W3 = wr) (fun vr _ _ => x + 1 - (intOf vr).toNat)
                    case atStart => exact ⟨rr, l, by omega, by omega, rfl, rfl, Lib.hid (cutQ_start HI3.out), rfl⟩
                    case round =>
                      obtain ⟨i, l2, hri, hix, rfl, rfl, hQ, rfl⟩ := hrel
                      by_cases hi : i ≤ x
                      · have p0 : (i : Int) ≤ (x : Int) := by omega
                        obtain ⟨M, hM⟩ : ∃ M, i * C = M := ⟨_, rfl⟩
                        have hMb : M ≤ 25 := by rw [← hM]; exact Nat.le_trans (Nat.mul_le_mul (by omega : i ≤ 5) hCC) (by decide)
                        have m1 : (i : Int) * (C : Int) = (M : Int) := by rw [← hM]; simp
                        have HM := Lib.hid hM
                        clear hM
                        go_wp2_with fail
                        go_loopw [14, 8] (fun vc vl wr => ∃ (jj l3 : Nat), tt ≤ jj ∧ jj ≤ y + 1 ∧ vc = .int .i64 (jj : Int) ∧ vl = .int .u32 (l3 : Int) ∧ Hid (cutQ R C l rr tt x y i jj = l3) ∧ W3 = wr) (fun vc _ _ => y + 1 - (intOf vc).toNat)
                        case atStart => exact ⟨tt, l2, by omega, by omega, rfl, rfl, hQ, rfl⟩
                        case round =>
                          clear hQ
                          obtain ⟨jj, l3, htj, hjy, rfl, rfl, hQ, rfl⟩ := hrel
                          by_cases hj : jj ≤ y
                          · have p1 : (jj : Int) ≤ (y : Int) := by omega
                            obtain ⟨nn, hnn⟩ : ∃ nn, M + jj = nn := ⟨_, rfl⟩
                            have hnN : nn < R * C := by rw [← hnn, ← HM.out]; exact rc_lt (by omega) (by omega)
                            have m2 : (M : Int) + (jj : Int) = (nn : Int) := by omega
                            obtain ⟨V, hV, hV1, g1, g2, g3⟩ := pow_facts nn (by omega)
                            have hl3 : l3 < 4294967296 := by rw [← hQ.out]; exact Nat.lt_of_lt_of_le (lt25 (cutQ_lt _ _ _ _ _ _ _ _ _) hn25) (by decide)
                            obtain ⟨d, hd⟩ : ∃ d, del l3 nn = d := ⟨_, rfl⟩
                            have g4 : bits .andNot .u32 (l3 : Int) (V : Int) = (d : Int) := by rw [u32_andNot_nat l3 V hl3 (by omega), ← hd, del, hV]
                            have HQ2 : Hid (cutQ R C l rr tt x y i (jj + 1) = d) := Lib.hid (by rw [← cutQ_del hn25 ⟨hri, hi, hxx⟩ ⟨htj, hj, hyy⟩, hQ.out, HM.out, hnn, hd])
                            clear hnn hV hd hQ
                            go_wp2_with fail
                            go_roundw
                            case rel => first | exact ⟨jj + 1, d, by omega, by omega, by go_num, rfl, HQ2, by first | trivial | rfl⟩ | ((repeat apply Exists.intro); exact ⟨⟨jj + 1, d, by omega, by omega, by go_num, rfl, HQ2, by first | trivial | rfl⟩, rfl⟩)
                            case measure => (simp [intOf] <;> omega)
                          · obtain rfl : jj = y + 1 := by omega
                            have HQ2 : Hid (cutQ R C l rr tt x y (i + 1) tt = l3) := Lib.hid (by rw [← cutQ_row]; exact hQ.out)
                            have p1 : ¬ ((y : Int) + 1) ≤ (y : Int) := by omega
                            go_wp2_with fail
                            go_roundw
                            case rel => first | exact ⟨i + 1, l3, by omega, by omega, by go_num, rfl, HQ2, by first | trivial | rfl⟩ | ((repeat apply Exists.intro); exact ⟨⟨i + 1, l3, by omega, by omega, by go_num, rfl, HQ2, by first | trivial | rfl⟩, rfl⟩)
                            case measure => (simp [intOf] <;> omega)
                      · obtain rfl : i = x + 1 := by omega
                        have p1 : ¬ ((x : Int) + 1) ≤ (x : Int) := by omega
                        have HL2 : Hid (cutS R C l rr tt x y = l2) := Lib.hid (by rw [← cutQ_end]; exact hQ.out)
                        have HI4 : Hid (blksF R C 26 q0 = (done ++ [(rr, tt, x, y)]) ++ blksF R C ff l2 ∧ pcN 25 l2 < ff ∧ l2 < 2 ^ (R * C)) := Lib.hid (by
                          have hlt := cut_fewer (R := R) (C := C) (s := l) (r := rr) (c := tt) (x := x) (y := y) (rc_lt htC hrR) hn25 htC (by rw [← HFE.out]; exact HBB.out) hrx hty
                          rw [HL2.out] at hlt
                          refine ⟨?_, by have := HI2.out; omega, by rw [← HL2.out]; exact cut_lt _ _ _ _ _ _ _⟩
                          rw [HI1.out, HX3.out, HY2.out, cut4]
                          show done ++ (rr, tt, x, y) :: blksF R C ff (cutS R C l rr tt x y) = _
                          rw [HL2.out]; simp)
                        have HME : Hid (pcN 25 l2 < pcN 25 l) := Lib.hid (by
                          have hlt := cut_fewer (R := R) (C := C) (s := l) (r := rr) (c := tt) (x := x) (y := y) (rc_lt htC hrR) hn25 htC (by rw [← HFE.out]; exact HBB.out) hrx hty
                          rw [HL2.out] at hlt; exact hlt)
                        clear hQ
                        go_wp2_with (at_builtin; refine wl_app_quad wb.heap.size (.tmp 132) (.tmp 134) rfl rfl rfl rfl (HO3.out.below ((Below.refl _ _).alloc (Nat.le_refl _) _)) (rr, tt, x, y) (by simp [go_sem]) (by simp [go_sem]) (by simp [go_sem]) (by simp [go_sem]) (by simp; omega) (by omega) ?_)
                        intro a5 c5 w5 ho5 hg5 hb5
                        have HO5 := Lib.hid ho5
                        have HG5 : Hid (GoodW wb w5) := Lib.hid ((Below.alloc HG3.out hz3 _).trans hb5)
                        clear ho5 hg5 hb5
                        go_wp2_with fail
                        go_roundw
                        case rel => first | exact ⟨l2, ff, n2 + 1, a5, c5, done ++ [(rr, tt, x, y)], rfl, rfl, by omega, HI4, HO5, HG5⟩ | ((repeat apply Exists.intro); exact ⟨⟨l2, ff, n2 + 1, a5, c5, done ++ [(rr, tt, x, y)], rfl, rfl, by omega, HI4, HO5, HG5⟩, rfl⟩)
                        case measure => (simp [intOf]; exact HME.out)
            · have d1 : decide ((x : Int) + 1 < (R : Int)) = false := by simp; omega
              have d2 : ¬ (x : Int) + 1 < (R : Int) := by omega
              have HX2 : Hid (ext (dnP R C l tt) 5 rr = x) := Lib.hid (by rw [hX.out, ext_no (by unfold dnP; simp [hx1])])
              go_wp2_with fail
              go_quiet (fail)
              go_wp2
              have hS2 : Hid (CoS W2 (wr.drewN nq) gx rr tt x tt) := Lib.hid (hS.out.drewN nq)
              obtain ⟨Wx, hWx⟩ : ∃ Wx, wr.drewN nq = Wx := ⟨_, rfl⟩
              rw [hWx] at hS2 ⊢
              clear hWx hS hX y0 y1 y2 y3 xr xc w1' d1 d2
              go_loopg [] 5 (fun gk wr => ∃ y f : Nat, f = gk ∧ y + f = tt + 5 ∧ y < C ∧ tt ≤ y ∧ Hid (ext (rtP C l rr) 5 tt = ext (rtP C l rr) f y) ∧ Hid (CoS W2 wr gx rr tt x y))
              case atStart => exact ⟨tt, 5, rfl, by omega, htC, Nat.le_refl _, Lib.hid rfl, hS2⟩
              case round =>
                clear hS2
                obtain ⟨y, fy, rfl, hyf, hyC, hty, hY, hS⟩ := hrel
                obtain ⟨y0, y1, y2, y3⟩ := hS.out.cells
                have hFl : Flr wr g R C (nearN C (R * C)) := (hS.out.gr.block g (by omega) (by simp; omega)).trans (ArrV.below HFA.out HG2.out)
                have xc := Flr.cols hFl
                have w1' : IntKind.i64.wrap ((y : Int) + 1) = (y : Int) + 1 := IntWalk.i64_in _ (by omega)
                obtain ⟨fy', rfl⟩ : ∃ q, fy = q + 1 := ⟨fy - 1, by omega⟩
                by_cases hy1 : y + 1 < C
                · have d1 : decide ((y : Int) + 1 < (C : Int)) = true := by simp; omega
                  have d2 : (y : Int) + 1 < (C : Int) := by omega
                  obtain ⟨M, hM⟩ : ∃ M, rr * C = M := ⟨_, rfl⟩
                  have hMb : M ≤ 25 := by rw [← hM]; exact Nat.le_trans (Nat.mul_le_mul (by omega : rr ≤ 5) hCC) (by decide)
                  have m1 : (rr : Int) * (C : Int) = (M : Int) := by rw [← hM]; simp
                  obtain ⟨my, hmy⟩ : ∃ my, M + y = my := ⟨_, rfl⟩
                  obtain ⟨nn, hnn⟩ : ∃ nn, M + (y + 1) = nn := ⟨_, rfl⟩
                  have hnN : nn < R * C := by rw [← hnn, ← hM]; exact rc_lt hy1 hrR
                  obtain ⟨B, hB⟩ : ∃ B, l.testBit nn = B := ⟨_, rfl⟩
                  have HDP : Hid (rtP C l rr (y + 1) = B) := Lib.hid (by unfold rtP at'; rw [hM, hnn, hB]; simp [hy1])
                  have HC56 : Hid (∀ q, Calls Tryd.prog 56 #[.int .u32 (l : Int), .int .i64 (nn : Int)] (wr.drewN q) fun e w' => e = .returned (.bool B) ∧ w' = wr.drewN q) := Lib.hid fun q => (has_any l nn _ hl32 (by omega) B hB).mono fun _ _ h => ⟨h.1, h.2.symm⟩
                  have w2' : IntKind.i64.wrap (M : Int) = (M : Int) := IntWalk.i64_in _ (by omega)
                  have w3' : IntKind.i64.wrap ((M : Int) + (y : Int)) = (my : Int) := (IntWalk.i64_in _ (by omega)).trans (by omega)
                  have w4' : IntKind.i64.wrap ((my : Int) + 1) = (nn : Int) := (IntWalk.i64_in _ (by omega)).trans (by omega)
                  clear hM hnn hmy hB hFl
                  cases B with
                  | true =>
                    have HY2 : Hid (ext (rtP C l rr) 5 tt = ext (rtP C l rr) fy' (y + 1)) := Lib.hid (by rw [hY.out, ext_yes HDP.out])
                    have HS2 : Hid (∀ q, CoS W2 ((wr.drewN q).setCell ⟨gx, 3, none⟩ (.int .i64 ((y : Int) + 1))) gx rr tt x (y + 1)) := Lib.hid fun q => (hS.out.drewN q).right (y + 1)
                    have fr2 := hS.out.arr.frozen 3
                    go_wp2_with fail
                    go_quiet ((go_at_call 56; exact Calls.quiet_of_same (HC56.out _)))
                    go_wp2
                    go_roundg (fy')
                    case measure => omega
                    case rel => exact ⟨y + 1, fy', rfl, by omega, hy1, by omega, HY2, Lib.hid (HS2.out _)⟩
                  | false =>
                    have HY2 : Hid (ext (rtP C l rr) 5 tt = y) := Lib.hid (by rw [hY.out, ext_no HDP.out])
                    go_wp2_with fail
                    go_quiet ((go_at_call 56; exact Calls.quiet_of_same (HC56.out _)))
                    have hS3 : Hid (CoS W2 (wr.drewN nq) gx rr tt x y) := Lib.hid (hS.out.drewN nq)
                    clear hS hY y0 y1 y2 y3 xc w1' w2' w3' w4' m1 d1 d2 HC56 HDP
                    have hS4 := hS3
                    clear hS3
                    have HX3 := HX2
                    obtain ⟨W3, hW3⟩ : ∃ W3, wr.drewN nq = W3 := ⟨_, rfl⟩
                    rw [hW3] at hS4 ⊢
                    clear hW3
                    obtain ⟨y0, y1, y2, y3⟩ := hS4.out.cells
                    have hFl : Flr W3 g R C (nearN C (R * C)) := (hS4.out.gr.block g (by omega) (by simp; omega)).trans (ArrV.below HFA.out HG2.out)
                    have xc := Flr.cols hFl
                    have hcb := Below.size HG2.out
                    have hG3 : GoodW wb W3 := Below.grown HG2.out hS4.out.gr hcb (fun k hk => by cases hk; exact hgl)
                    have HG3 := Lib.hid hG3
                    have HO3 : Hid (OwnQ W3 wb.heap.size ao n2 co done) := Lib.hid (HO2.out.kept hS4.out.gr HLT.out)
                    have hz3 := Below.size hG3
                    have hxx : x < R := hxR
                    have hyy : y < C := hyC
                    clear hFl hG3 hS4
                    go_wp2_with fail
                    go_loopw [13, 8] (fun vr vl wr => ∃ (i l2 : Nat), rr ≤ i ∧ i ≤ x + 1 ∧ vr = .int .i64 (i : Int) ∧ vl = .int .u32 (l2 : Int) ∧ Hid (cutQ R C l rr tt x y i tt = l2) ∧ W3 = wr) (fun vr _ _ => x + 1 - (intOf vr).toNat)
                    case atStart => exact ⟨rr, l, by omega, by omega, rfl, rfl, Lib.hid (cutQ_start HI3.out), rfl⟩
                    case round =>
                      obtain ⟨i, l2, hri, hix, rfl, rfl, hQ, rfl⟩ := hrel
                      by_cases hi : i ≤ x
                      · have p0 : (i : Int) ≤ (x : Int) := by omega
                        obtain ⟨M, hM⟩ : ∃ M, i * C = M := ⟨_, rfl⟩
                        have hMb : M ≤ 25 := by rw [← hM]; exact Nat.le_trans (Nat.mul_le_mul (by omega : i ≤ 5) hCC) (by decide)
                        have m1 : (i : Int) * (C : Int) = (M : Int) := by rw [← hM]; simp
                        have HM := Lib.hid hM
                        clear hM
                        go_wp2_with fail
                        go_loopw [14, 8] (fun vc vl wr => ∃ (jj l3 : Nat), tt ≤ jj ∧ jj ≤ y + 1 ∧ vc = .int .i64 (jj : Int) ∧ vl = .int .u32 (l3 : Int) ∧ Hid (cutQ R C l rr tt x y i jj = l3) ∧ W3 = wr) (fun vc _ _ => y + 1 - (intOf vc).toNat)
                        case atStart => exact ⟨tt, l2, by omega, by omega, rfl, rfl, hQ, rfl⟩
                        case round =>
                          clear hQ
                          obtain ⟨jj, l3, htj, hjy, rfl, rfl, hQ, rfl⟩ := hrel
                          by_cases hj : jj ≤ y
                          · have p1 : (jj : Int) ≤ (y : Int) := by omega
                            obtain ⟨nn, hnn⟩ : ∃ nn, M + jj = nn := ⟨_, rfl⟩
                            have hnN : nn < R * C := by rw [← hnn, ← HM.out]; exact rc_lt (by omega) (by omega)
                            have m2 : (M : Int) + (jj : Int) = (nn : Int) := by omega
                            obtain ⟨V, hV, hV1, g1, g2, g3⟩ := pow_facts nn (by omega)
                            have hl3 : l3 < 4294967296 := by rw [← hQ.out]; exact Nat.lt_of_lt_of_le (lt25 (cutQ_lt _ _ _ _ _ _ _ _ _) hn25) (by decide)
                            obtain ⟨d, hd⟩ : ∃ d, del l3 nn = d := ⟨_, rfl⟩
                            have g4 : bits .andNot .u32 (l3 : Int) (V : Int) = (d : Int) := by rw [u32_andNot_nat l3 V hl3 (by omega), ← hd, del, hV]
                            have HQ2 : Hid (cutQ R C l rr tt x y i (jj + 1) = d) := Lib.hid (by rw [← cutQ_del hn25 ⟨hri, hi, hxx⟩ ⟨htj, hj, hyy⟩, hQ.out, HM.out, hnn, hd])
                            clear hnn hV hd hQ
                            go_wp2_with fail
                            go_roundw
                            case rel => first | exact ⟨jj + 1, d, by omega, by omega, by go_num, rfl, HQ2, by first | trivial | rfl⟩ | ((repeat apply Exists.intro); exact ⟨⟨jj + 1, d, by omega, by omega, by go_num, rfl, HQ2, by first | trivial | rfl⟩, rfl⟩)
                            case measure => (simp [intOf] <;> omega)
                          · obtain rfl : jj = y + 1 := by omega
                            have HQ2 : Hid (cutQ R C l rr tt x y (i + 1) tt = l3) := Lib.hid (by rw [← cutQ_row]; exact hQ.out)
                            have p1 : ¬ ((y : Int) + 1) ≤ (y : Int) := by omega
                            go_wp2_with fail
                            go_roundw
                            case rel => first | exact ⟨i + 1, l3, by omega, by omega, by go_num, rfl, HQ2, by first | trivial | rfl⟩ | ((repeat apply Exists.intro); exact ⟨⟨i + 1, l3, by omega, by omega, by go_num, rfl, HQ2, by first | trivial | rfl⟩, rfl⟩)
                            case measure => (simp [intOf] <;> omega)
                      · obtain rfl : i = x + 1 := by omega
                        have p1 : ¬ ((x : Int) + 1) ≤ (x : Int) := by omega
                        have HL2 : Hid (cutS R C l rr tt x y = l2) := Lib.hid (by rw [← cutQ_end]; exact hQ.out)
                        have HI4 : Hid (blksF R C 26 q0 = (done ++ [(rr, tt, x, y)]) ++ blksF R C ff l2 ∧ pcN 25 l2 < ff ∧ l2 < 2 ^ (R * C)) := Lib.hid (by
                          have hlt := cut_fewer (R := R) (C := C) (s := l) (r := rr) (c := tt) (x := x) (y := y) (rc_lt htC hrR) hn25 htC (by rw [← HFE.out]; exact HBB.out) hrx hty
                          rw [HL2.out] at hlt
                          refine ⟨?_, by have := HI2.out; omega, by rw [← HL2.out]; exact cut_lt _ _ _ _ _ _ _⟩
                          rw [HI1.out, HX3.out, HY2.out, cut4]
                          show done ++ (rr, tt, x, y) :: blksF R C ff (cutS R C l rr tt x y) = _
                          rw [HL2.out]; simp)
                        have HME : Hid (pcN 25 l2 < pcN 25 l) := Lib.hid (by
                          have hlt := cut_fewer (R := R) (C := C) (s := l) (r := rr) (c := tt) (x := x) (y := y) (rc_lt htC hrR) hn25 htC (by rw [← HFE.out]; exact HBB.out) hrx hty
                          rw [HL2.out] at hlt; exact hlt)
                        clear hQ
                        go_wp2_with (at_builtin; refine wl_app_quad wb.heap.size (.tmp 132) (.tmp 134) rfl rfl rfl rfl (HO3.out.below ((Below.refl _ _).alloc (Nat.le_refl _) _)) (rr, tt, x, y) (by simp [go_sem]) (by simp [go_sem]) (by simp [go_sem]) (by simp [go_sem]) (by simp; omega) (by omega) ?_)
                        intro a5 c5 w5 ho5 hg5 hb5
                        have HO5 := Lib.hid ho5
                        have HG5 : Hid (GoodW wb w5) := Lib.hid ((Below.alloc HG3.out hz3 _).trans hb5)
                        clear ho5 hg5 hb5
                        go_wp2_with fail
                        go_roundw
                        case rel => first | exact ⟨l2, ff, n2 + 1, a5, c5, done ++ [(rr, tt, x, y)], rfl, rfl, by omega, HI4, HO5, HG5⟩ | ((repeat apply Exists.intro); exact ⟨⟨l2, ff, n2 + 1, a5, c5, done ++ [(rr, tt, x, y)], rfl, rfl, by omega, HI4, HO5, HG5⟩, rfl⟩)
                        case measure => (simp [intOf]; exact HME.out)
                · have d1 : decide ((y : Int) + 1 < (C : Int)) = false := by simp; omega
                  have d2 : ¬ (y : Int) + 1 < (C : Int) := by omega
                  have HY2 : Hid (ext (rtP C l rr) 5 tt = y) := Lib.hid (by rw [hY.out, ext_no (by unfold rtP; simp [hy1])])
                  clear hFl
                  go_wp2_with fail
                  go_quiet (fail)
                  have hS3 : Hid (CoS W2 (wr.drewN nq) gx rr tt x y) := Lib.hid (hS.out.drewN nq)
                  clear hS hY y0 y1 y2 y3 xc w1' d1 d2
                  have hS4 := hS3
                  clear hS3
                  have HX3 := HX2
                  obtain ⟨W3, hW3⟩ : ∃ W3, wr.drewN nq = W3 := ⟨_, rfl⟩
                  rw [hW3] at hS4 ⊢
                  clear hW3
                  obtain ⟨y0, y1, y2, y3⟩ := hS4.out.cells
                  have hFl : Flr W3 g R C (nearN C (R * C)) := (hS4.out.gr.block g (by omega) (by simp; omega)).trans (ArrV.below HFA.out HG2.out)
                  have xc := Flr.cols hFl
                  have hcb := Below.size HG2.out
                  have hG3 : GoodW wb W3 := Below.grown HG2.out hS4.out.gr hcb (fun k hk => by cases hk; exact hgl)
                  have HG3 := Lib.hid hG3
                  have HO3 : Hid (OwnQ W3 wb.heap.size ao n2 co done) := Lib.hid (HO2.out.kept hS4.out.gr HLT.out)
                  have hz3 := Below.size hG3
                  have hxx : x < R := hxR
                  have hyy : y < C := hyC
                  clear hFl hG3 hS4
                  go_wp2_with fail
                  go_loopw [13, 8] (fun vr vl wr => ∃ (i l2 : Nat), rr ≤ i ∧ i ≤ x + 1 ∧ vr = .int .i64 (i : Int) ∧ vl = .int .u32 (l2 : Int) ∧ Hid (cutQ R C l rr tt x y i tt = l2) ∧ W3 = wr) (fun vr _ _ => x + 1 - (intOf vr).toNat)
                  case atStart => exact ⟨rr, l, by omega, by omega, rfl, rfl, Lib.hid (cutQ_start HI3.out), rfl⟩
                  case round =>
                    obtain ⟨i, l2, hri, hix, rfl, rfl, hQ, rfl⟩ := hrel
                    by_cases hi : i ≤ x
                    · have p0 : (i : Int) ≤ (x : Int) := by omega
                      obtain ⟨M, hM⟩ : ∃ M, i * C = M := ⟨_, rfl⟩
                      have hMb : M ≤ 25 := by rw [← hM]; exact Nat.le_trans (Nat.mul_le_mul (by omega : i ≤ 5) hCC) (by decide)
                      have m1 : (i : Int) * (C : Int) = (M : Int) := by rw [← hM]; simp
                      have HM := Lib.hid hM
                      clear hM
                      go_wp2_with fail
                      go_loopw [14, 8] (fun vc vl wr => ∃ (jj l3 : Nat), tt ≤ jj ∧ jj ≤ y + 1 ∧ vc = .int .i64 (jj : Int) ∧ vl = .int .u32 (l3 : Int) ∧ Hid (cutQ R C l rr tt x y i jj = l3) ∧ W3 = wr) (fun vc _ _ => y + 1 - (intOf vc).toNat)
                      case atStart => exact ⟨tt, l2, by omega, by omega, rfl, rfl, hQ, rfl⟩
                      case round =>
                        clear hQ
                        obtain ⟨jj, l3, htj, hjy, rfl, rfl, hQ, rfl⟩ := hrel
                        by_cases hj : jj ≤ y
                        · have p1 : (jj : Int) ≤ (y : Int) := by omega
                          obtain ⟨nn, hnn⟩ : ∃ nn, M + jj = nn := ⟨_, rfl⟩
                          have hnN : nn < R * C := by rw [← hnn, ← HM.out]; exact rc_lt (by omega) (by omega)
                          have m2 : (M : Int) + (jj : Int) = (nn : Int) := by omega
                          obtain ⟨V, hV, hV1, g1, g2, g3⟩ := pow_facts nn (by omega)
                          have hl3 : l3 < 4294967296 := by rw [← hQ.out]; exact Nat.lt_of_lt_of_le (lt25 (cutQ_lt _ _ _ _ _ _ _ _ _) hn25) (by decide)
                          obtain ⟨d, hd⟩ : ∃ d, del l3 nn = d := ⟨_, rfl⟩
                          have g4 : bits .andNot .u32 (l3 : Int) (V : Int) = (d : Int) := by rw [u32_andNot_nat l3 V hl3 (by omega), ← hd, del, hV]
                          have HQ2 : Hid (cutQ R C l rr tt x y i (jj + 1) = d) := Lib.hid (by rw [← cutQ_del hn25 ⟨hri, hi, hxx⟩ ⟨htj, hj, hyy⟩, hQ.out, HM.out, hnn, hd])
                          clear hnn hV hd hQ
                          go_wp2_with fail
                          go_roundw
                          case rel => first | exact ⟨jj + 1, d, by omega, by omega, by go_num, rfl, HQ2, by first | trivial | rfl⟩ | ((repeat apply Exists.intro); exact ⟨⟨jj + 1, d, by omega, by omega, by go_num, rfl, HQ2, by first | trivial | rfl⟩, rfl⟩)
                          case measure => (simp [intOf] <;> omega)
                        · obtain rfl : jj = y + 1 := by omega
                          have HQ2 : Hid (cutQ R C l rr tt x y (i + 1) tt = l3) := Lib.hid (by rw [← cutQ_row]; exact hQ.out)
                          have p1 : ¬ ((y : Int) + 1) ≤ (y : Int) := by omega
                          go_wp2_with fail
                          go_roundw
                          case rel => first | exact ⟨i + 1, l3, by omega, by omega, by go_num, rfl, HQ2, by first | trivial | rfl⟩ | ((repeat apply Exists.intro); exact ⟨⟨i + 1, l3, by omega, by omega, by go_num, rfl, HQ2, by first | trivial | rfl⟩, rfl⟩)
                          case measure => (simp [intOf] <;> omega)
                    · obtain rfl : i = x + 1 := by omega
                      have p1 : ¬ ((x : Int) + 1) ≤ (x : Int) := by omega
                      have HL2 : Hid (cutS R C l rr tt x y = l2) := Lib.hid (by rw [← cutQ_end]; exact hQ.out)
                      have HI4 : Hid (blksF R C 26 q0 = (done ++ [(rr, tt, x, y)]) ++ blksF R C ff l2 ∧ pcN 25 l2 < ff ∧ l2 < 2 ^ (R * C)) := Lib.hid (by
                        have hlt := cut_fewer (R := R) (C := C) (s := l) (r := rr) (c := tt) (x := x) (y := y) (rc_lt htC hrR) hn25 htC (by rw [← HFE.out]; exact HBB.out) hrx hty
                        rw [HL2.out] at hlt
                        refine ⟨?_, by have := HI2.out; omega, by rw [← HL2.out]; exact cut_lt _ _ _ _ _ _ _⟩
                        rw [HI1.out, HX3.out, HY2.out, cut4]
                        show done ++ (rr, tt, x, y) :: blksF R C ff (cutS R C l rr tt x y) = _
                        rw [HL2.out]; simp)
                      have HME : Hid (pcN 25 l2 < pcN 25 l) := Lib.hid (by
                        have hlt := cut_fewer (R := R) (C := C) (s := l) (r := rr) (c := tt) (x := x) (y := y) (rc_lt htC hrR) hn25 htC (by rw [← HFE.out]; exact HBB.out) hrx hty
                        rw [HL2.out] at hlt; exact hlt)
                      clear hQ
                      go_wp2_with (at_builtin; refine wl_app_quad wb.heap.size (.tmp 132) (.tmp 134) rfl rfl rfl rfl (HO3.out.below ((Below.refl _ _).alloc (Nat.le_refl _) _)) (rr, tt, x, y) (by simp [go_sem]) (by simp [go_sem]) (by simp [go_sem]) (by simp [go_sem]) (by simp; omega) (by omega) ?_)
                      intro a5 c5 w5 ho5 hg5 hb5
                      have HO5 := Lib.hid ho5
                      have HG5 : Hid (GoodW wb w5) := Lib.hid ((Below.alloc HG3.out hz3 _).trans hb5)
                      clear ho5 hg5 hb5
                      go_wp2_with fail
                      go_roundw
                      case rel => first | exact ⟨l2, ff, n2 + 1, a5, c5, done ++ [(rr, tt, x, y)], rfl, rfl, by omega, HI4, HO5, HG5⟩ | ((repeat apply Exists.intro); exact ⟨⟨l2, ff, n2 + 1, a5, c5, done ++ [(rr, tt, x, y)], rfl, rfl, by omega, HI4, HO5, HG5⟩, rfl⟩)
                      case measure => (simp [intOf]; exact HME.out)
    · rw [if_neg hz0] at hR1 hR2
      have HE1 := Lib.hid hR1
      have HR := Lib.hid hR2
      have t0 : ((z : Int) != 0) = true := by simp; omega
      clear hR1 hR2
      go_wp2_with fail
      rw [← hwb]
      go_ret2
      exact BP.nil HE1.out HR.out kb
end Go.Proofs.YtbhjphcomppjgaaDoor
