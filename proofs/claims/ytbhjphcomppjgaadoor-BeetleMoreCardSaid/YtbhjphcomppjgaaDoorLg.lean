/- Law of chapter 9: BeetleMore. -/
import Derived.Test.YtbhjphcomppjgaaDoorVf
import Derived.Test.YtbhjphcomppjgaaDoorVj
import Derived.Test.YtbhjphcomppjgaaDoorPt
namespace Go.Proofs.YtbhjphcomppjgaaDoor
open Go.RowKit Beetle09
theorem IsL.sepOther {w : World} {a : Option Addr} {n c g i : Nat} {l : List Int} (h : IsL w a n c l) (hs : Sep a (some ⟨g, 0, none⟩)) (v : Value) : IsL (w.setCell ⟨g, i, none⟩ v) a n c l :=
  IsL.grown (o := some ⟨g, 0, none⟩) (k := 0) (co := 0) h (by simpa [Value.ownBlock] using grown_setCell w g i v) hs
theorem IsL.sepPos {w : World} {a : Option Addr} {n c g i : Nat} {l : List Int} (h : IsL w a n c l) (hs : 0 < n → Sep a (some ⟨g, 0, none⟩)) (v : Value) : IsL (w.setCell ⟨g, i, none⟩ v) a n c l := by
  by_cases hn : 0 < n
  · exact h.sepOther (hs hn) v
  · exact ⟨h.len, h.le, h.cap, h.nil, fun hp => absurd hp hn⟩
/-- A box of a store: its lists. -/
structure StB (wx : World) (g R C : Nat) (a : Option Addr) (n k : Nat) (b : Option Addr) (m j : Nat) (l z : List Nat) : Prop where
  blk : ArrV VV wx g 24 [.int .i64 (R : Int), .int .i64 (C : Int), .slice a n k, .slice b m j]
  il : IsL wx a n k (li l)
  iz : IsL wx b m j (li z)
theorem StB.to {wx wy : World} {g R C : Nat} {a : Option Addr} {n k : Nat} {b : Option Addr} {m j : Nat} {l z : List Nat} (h : StB wx g R C a n k b m j l z) (hb : Below wx.heap.size wx wy) : StB wy g R C a n k b m j l z := ⟨h.blk.below hb, h.il.below hb, h.iz.below hb⟩
set_option maxHeartbeats 4000000 in
theorem Delete_at (B g n c j : Nat) (i : Nat) (l : List Int) (w : World) (h : OwnL w 3 B (some ⟨g, 0, none⟩) n c l) (hi : i < n) (hj : j = i + 1) : Calls Tryd.prog 45 #[.slice (some ⟨g, 0, none⟩) n c, .int .i64 (i : Int), .int .i64 (j : Int)] w fun e w' => e = .returned (.slice (some ⟨g, 0, none⟩) (n - 1) c) ∧ IsL w' (some ⟨g, 0, none⟩) (n - 1) c (l.eraseIdx i) ∧ w.grownBy w' (some g) := Delete_any B g n c i j l w h hi hj
set_option maxHeartbeats 32000000 in
set_option maxRecDepth 100000 in
theorem BeetleMore_any (p q x y u v : Nat) (w : World) (hp : p < 256) (hq : q < 256) (hx : x < 4294967296) (hy : y < 4294967296) (hu : u < 256) (hv : v < 256) (hT : Tab w) : Calls Tryd.prog 9 #[floV p q x y, .int .u8 (u : Int), .int .u8 (v : Int)] w fun e w' => e = .returned (.bool true) ∧ Below w.heap.size w w' := by
  have HM := Lib.hid (made5_any p q x y true (w.alloc (.cells (floL p q x y).toArray 58)) hp hq hx hy)
  have HMO := Lib.hid (mk_open (p := p) (q := q) (x := x) (y := y) (b := true) (M := 5) (by decide) (by decide))
  have HTT := Lib.hid hT
  clear hT
  go_enter Tryd.func9, Tryd.ntmps9
  go_wp2_with fail
  refine HM.out.mono ?_
  rintro e w1 ⟨aS, nS, cS, aC, nC, cC, rfl, hS, hF, hb⟩
  obtain ⟨R, hR⟩ : ∃ R, mkN p 5 = R := ⟨_, rfl⟩
  obtain ⟨C, hC⟩ : ∃ C, mkN q 5 = C := ⟨_, rfl⟩
  rw [hR, hC] at hS hF HMO
  simp only [hR, hC]
  obtain ⟨sk, hsk⟩ : ∃ sk, mkS (R * C) x = sk := ⟨_, rfl⟩
  obtain ⟨zk, hzk⟩ : ∃ zk, mkZ true (R * C) x y = zk := ⟨_, rfl⟩
  rw [hsk] at hS HMO
  rw [hzk] at hF HMO
  simp only [hsk, hzk]
  have H0 := Lib.hid HMO.out.1
  have HOP := Lib.hid HMO.out.2
  have n25 := HOP.out.sd.n25
  have hR5 := HOP.out.sd.r5
  have hC5 := HOP.out.sd.c5
  have hs25 := HOP.out.s25
  have hz25 := HOP.out.z25
  have HL0 := Lib.hid (LwS.start (R := R) (C := C) hS hF HTT.out hb)
  clear HM HMO hS hF hb HTT hR hC hsk hzk
  obtain ⟨gS, hgS⟩ : ∃ g, w1.heap.size = g := ⟨_, rfl⟩
  go_wp2_with fail
  rw [hgS] at HL0
  obtain ⟨W, hW⟩ : ∃ W, ((w1.alloc (.cells #[.int .i64 (R : Int), .int .i64 (C : Int), .slice aS nS cS, .slice aC nC cC] 24)).alloc (.cells #[.int .i64 (R : Int), .int .i64 (C : Int)] 60)) = W := ⟨_, rfl⟩
  rw [hW] at HL0 ⊢
  clear hW hgS
  have hWs := HL0.out.lt
  have HDE := Lib.hid (HOP.out.days H0.out)
  obtain ⟨N, hN⟩ : ∃ N, R * C = N := ⟨_, rfl⟩
  have m1 : (R : Int) * (C : Int) = (N : Int) := by rw [← hN]; simp
  have hN1 : 1 ≤ N := by rw [← hN]; exact HOP.out.sd.n1
  have hM0 := Mor.start (N := R * C) HOP.out.rs.lt n25 HOP.out.rz.lt HOP.out.dj
  have HM0 := Lib.hid hM0
  have HN := Lib.hid hN
  have HDY : Hid (∀ l m, Mor N sk zk l m → openE (R : Int) (C : Int) (li l) (li m) = 0 ∧ ∃ b : List Int, daysE (R : Int) (C : Int) (li l) (li m) = b ∧ b.length = N ∧ ∀ n, n < N → 0 ≤ (daysL R C zk sk).getD n 0 → 0 ≤ b.getD n 0 ∧ b.getD n 0 ≤ (daysL R C zk sk).getD n 0) := Lib.hid fun l m h => by
    rw [← hN]; exact Mor.days (by rw [hN]; exact h) HOP.out.sd
  rw [hN] at n25 HM0
  have t0 := val HL0.out.st 0 rfl
  have t1 := val HL0.out.st 1 rfl
  have t2 := val HL0.out.st 2 rfl
  have t3 := val HL0.out.st 3 rfl
  clear hN hM0
  refine (Days_c HL0.out.iS HL0.out.iF HL0.out.tab H0.out HDE.out).mono ?_
  rintro e w2 ⟨ad, nd, cd, rfl, hd, b2⟩
  have hnd := hd.len
  rw [daysL_len, HN.out] at hnd
  obtain rfl : nd = N := hnd.symm
  have hcd := hd.cap
  have hld := hd.le
  have HD2 := Lib.hid hd
  have HL2 := Lib.hid (HL0.out.to b2)
  clear t0 t1 t2 t3 hd hnd
  have z0 := val HL2.out.pl 0 rfl
  have z1 := val HL2.out.pl 1 rfl
  have t0 := val HL2.out.st 0 rfl
  have t1 := val HL2.out.st 1 rfl
  have t2 := val HL2.out.st 2 rfl
  have t3 := val HL2.out.st 3 rfl
  have hgl := HL2.out.lt
  have hW2 := b2.size
  obtain ⟨W2, rfl⟩ : ∃ W, W = w2 := ⟨_, rfl⟩
  go_upto_region 5 with fail
  go_cut [13, 14] (fun s13 s14 wx => ∃ g3 g4, s13 = .pointer (some ⟨g3, 0, none⟩) ∧ s14 = .pointer (some ⟨g4, 0, none⟩) ∧ g3 ≠ g4 ∧ W2.heap.size ≤ g3 ∧ W2.heap.size ≤ g4 ∧ Hid (ArrV VV wx g3 24 [.int .i64 (R : Int), .int .i64 (C : Int), .slice aS nS cS, .slice aC nC cC]) ∧ Hid (ArrV VV wx g4 24 [.int .i64 (R : Int), .int .i64 (C : Int), .slice aS nS cS, .slice aC nC cC]) ∧ Below W2.heap.size W2 wx)
  case first =>
    have hgl2 : gS < W2.heap.size := by omega
    have HLa := HL2.out.to ((Below.refl _ _).alloc (Nat.le_refl _) (.cells #[.int .i64 0, .int .i64 0, .slice none 0 0, .slice none 0 0] 24))
    have HLb := HLa.to ((Below.refl _ _).alloc (Nat.le_refl _) (.cells #[.int .i64 0, .int .i64 0, .slice none 0 0, .slice none 0 0] 24))
    have ta0 := val HLa.st 0 rfl
    have tb0 := val HLb.st 0 rfl
    have ta1 := val HLa.st 1 rfl
    have tb1 := val HLb.st 1 rfl
    have ta2 := val HLa.st 2 rfl
    have tb2 := val HLb.st 2 rfl
    have ta3 := val HLa.st 3 rfl
    have tb3 := val HLb.st 3 rfl
    clear HLa HLb
    go_region
    all_goals
      go_wp2_with fail
      go_meet
      first
        | exact ⟨_, _, rfl, rfl, by omega, by omega, by omega, Lib.hid (((ArrV.new W2 _ _ _ _ rfl (by simp [VV])).alloc _).drew), Lib.hid ((ArrV.new _ _ _ _ _ (by simp) (by simp [VV])).drew), (((Below.refl _ _).alloc (Nat.le_refl _) _).alloc (by simp) _).drew⟩
        | exact ⟨_, _, rfl, rfl, by omega, by omega, by omega, Lib.hid ((ArrV.new _ _ _ _ _ (by simp) (by simp [VV])).drew), Lib.hid (((ArrV.new W2 _ _ _ _ rfl (by simp [VV])).alloc _).drew), (((Below.refl _ _).alloc (Nat.le_refl _) _).alloc (by simp) _).drew⟩
  case rest =>
    obtain ⟨g3, g4, rfl, rfl, hne, hg3, hg4, hA3, hA4, hb3⟩ := hcut
    clear z0 z1 t0 t1 t2 t3
    obtain ⟨W3, rfl⟩ : ∃ W, W = wc := ⟨_, rfl⟩
    have hW3 := hb3.size
    have hg3l := hA3.out.lt
    have hg4l := hA4.out.lt
    have i1 : IntKind.i64.wrap (u : Int) = (u : Int) := IntWalk.i64_in _ (by omega)
    have i2 : (u : Int) % (nd : Int) = ((u % nd : Nat) : Int) := by simp
    have i3 : ((nd : Int) == 0) = false := by simp; omega
    have i4 : (0 : Int) < (nd : Int) := by omega
    have i5 : ¬ (nd : Int) = 0 := by omega
    have hnN := Nat.mod_lt u hN1
    obtain ⟨n, hn⟩ : ∃ n, u % nd = n := ⟨_, rfl⟩
    rw [hn] at i2 hnN
    have hn25 : n < 25 := by omega
    obtain ⟨q0, hq0⟩ : ∃ q, sk ||| zk = q := ⟨_, rfl⟩
    have f0 : bits .or .u32 (sk : Int) (zk : Int) = (q0 : Int) := by rw [u32_or_nat sk zk (by omega) (by omega), hq0]
    have hq032 : q0 < 4294967296 := by rw [← hq0]; exact Nat.lt_of_lt_of_le (Nat.or_lt_two_pow hs25 hz25) (by decide)
    obtain ⟨B1, hB1⟩ : ∃ B, q0.testBit n = B := ⟨_, rfl⟩
    obtain ⟨V, dd, hV1, f1, f2, f3⟩ := bit01_facts q0 n hq032 hn25 B1 hB1
    have HB1 : Hid ((sk.testBit n || zk.testBit n) = B1) := Lib.hid (by rw [← Nat.testBit_or, hq0]; exact hB1)
    have HL3 := Lib.hid (HL2.out.to hb3)
    have hnSle := HL3.out.iS.len
    rw [li_len, List.length_reverse, els_len] at hnSle
    have hnS25 : nS ≤ 25 := by have := pcN_le 25 sk; omega
    clear hn hq0 hB1 hnSle
    go_upto_if 60 with fail
    simp only [i2]
    go_cut [15] (fun s15 wx => s15 = .int .i64 (n : Int) ∧ ∃ (M : List Nat) (aM : Option Addr) (nM cM : Nat), Hid (StB wx g3 R C aM nM cM aC nC cC M (els 25 zk)) ∧ Hid (StB wx g4 R C aS nS cS aC nC cC (els 25 sk).reverse (els 25 zk)) ∧ Hid (Mor nd sk zk M (els 25 zk)) ∧ Hid (0 < nM → Sep aM (some ⟨g4, 0, none⟩)) ∧ Below W2.heap.size W2 wx)
    case first =>
      cases B1 with
      | true =>
        have f4 : bits .and .u32 (dd : Int) 1 = 1 := f3
        clear f3
        go_wp2_with fail
        go_meet
        exact ⟨rfl, _, _, _, _, Lib.hid ⟨hA3.out, HL3.out.iS, HL3.out.iF⟩, Lib.hid ⟨hA4.out, HL3.out.iS, HL3.out.iF⟩, HM0, Lib.hid (fun hp x y hx hy => by
          have := HL2.out.iS.lt hp x hx
          obtain rfl := Option.some.inj hy
          show x.block ≠ g4
          omega), hb3⟩
      | false =>
        have f4 : bits .and .u32 (dd : Int) 1 = 0 := f3
        have HOL := Lib.hid (own_lit W3 3 W3.heap.size (Nat.le_refl _) ([(n : Int)] : List Int) #[.int .i64 (n : Int)] 1 rfl rfl (by decide))
        have bal : Below W3.heap.size W3 (W3.alloc (.cells #[.int .i64 (n : Int)] 3)) := (Below.refl _ _).alloc (Nat.le_refl _) _
        have HLc := Lib.hid (HL3.out.to bal)
        have tc2 := val HLc.out.st 2 rfl
        have t2 := val HL3.out.st 2 rfl
        clear f3
        go_wp2_with (at_builtin; refine wl_app_own Tryd.underlying22 elem3 W3.heap.size (.tmp 62) (.tmp 64) rfl rfl rfl rfl HOL.out HLc.out.iS (by simp) (by omega) ?_)
        intro aM cM w4 ho hg hb4 _
        have hA3' : ArrV VV w4 g3 24 [.int .i64 (R : Int), .int .i64 (C : Int), .slice aS nS cS, .slice aC nC cC] := (hb4.block g3 hg3l).trans (hA3.out.alloc _)
        have hA4' : ArrV VV w4 g4 24 [.int .i64 (R : Int), .int .i64 (C : Int), .slice aS nS cS, .slice aC nC cC] := (hb4.block g4 hg4l).trans (hA4.out.alloc _)
        have hbw : Below W2.heap.size W2 (w4.setCell ⟨g3, 2, none⟩ (.slice aM (1 + nS) cM)) := ((hb3.trans (bal.mono hW3)).trans (hb4.mono hW3)).setCell (p := ⟨g3, 2, none⟩) hg3 _
        have HLd := HL2.out.to hbw
        have HOM : OwnL (w4.setCell ⟨g3, 2, none⟩ (.slice aM (1 + nS) cM)) 3 W3.heap.size aM (1 + nS) cM (li (n :: (els 25 sk).reverse)) := OwnL.other ho (p := ⟨g3, 2, none⟩) hg3l _
        have HS1 : Hid (StB (w4.setCell ⟨g3, 2, none⟩ (.slice aM (1 + nS) cM)) g3 R C aM (1 + nS) cM aC nC cC (n :: (els 25 sk).reverse) (els 25 zk)) := Lib.hid ⟨hA3'.set 2 (.slice aM (1 + nS) cM), HOM.isL, HLd.iF⟩
        have HS2 : Hid (StB (w4.setCell ⟨g3, 2, none⟩ (.slice aM (1 + nS) cM)) g4 R C aS nS cS aC nC cC (els 25 sk).reverse (els 25 zk)) := Lib.hid ⟨hA4'.other (p := ⟨g3, 2, none⟩) hne _, HLd.iS, HLd.iF⟩
        have HMC : Hid (Mor nd sk zk (n :: (els 25 sk).reverse) (els 25 zk)) := Lib.hid (HM0.out.cons hnN (fun h => by
          have h1 := (mem_els.1 (List.mem_reverse.1 h)).2
          have h2 := HB1.out
          rw [h1] at h2; cases h2) (fun h => by
          have h1 := (mem_els.1 h).2
          have h2 := HB1.out
          rw [h1, Bool.or_true] at h2; cases h2))
        have HSP : Hid (0 < 1 + nS → Sep aM (some ⟨g4, 0, none⟩)) := Lib.hid (fun _ x y hx hy => by
          have := (HOM.lt x hx).1
          obtain rfl := Option.some.inj hy
          show x.block ≠ g4
          omega)
        have HBW := Lib.hid hbw
        have y0 := val hA3' 2 rfl
        have y1 := hA3'.frozen 2
        clear HLd HOM hA3' hA4' hbw ho hg hb4 HOL HLc tc2 t2 bal
        go_wp2_with fail
        go_meet
        exact ⟨rfl, _, _, _, _, HS1, HS2, HMC, HSP, HBW.out⟩
    case rest =>
      obtain ⟨rfl, M, aM, nM, cM, hS3, hS4, hMM, hSP, hb4⟩ := hcut
      clear hA3 hA4 HL3 f0 f1 f2 f3 i1 i2 i3 i4 i5 HB1 hg3l hg4l
      obtain ⟨W4, rfl⟩ : ∃ W, W = wc := ⟨_, rfl⟩
      have hW4 := hb4.size
      have HL4 := Lib.hid (HL2.out.to hb4)
      have t3 := val HL4.out.st 3 rfl
      have hnC := HL4.out.iF.len
      rw [li_len, els_len] at hnC
      have hnC25 : nC ≤ 25 := by have := pcN_le 25 zk; omega
      have hg3l := hS3.out.blk.lt
      have hg4l := hS4.out.blk.lt
      clear hnC
      go_upto_if 71 with fail
      go_cut [16] (fun s16 wx => s16 = .int .i64 (nC : Int) ∧ ∃ (Z : List Nat) (aW : Option Addr) (nW cW : Nat), Hid (StB wx g3 R C aM nM cM aC nC cC M (els 25 zk)) ∧ Hid (StB wx g4 R C aS nS cS aW nW cW (els 25 sk).reverse Z) ∧ Hid (Mor nd sk zk (els 25 sk).reverse Z) ∧ Below W2.heap.size W2 wx)
      case first =>
        by_cases hk : 0 < nC
        · have d0 : decide ((0 : Int) < (nC : Int)) = true := by simp; omega
          have j1 : IntKind.i64.wrap (v : Int) = (v : Int) := IntWalk.i64_in _ (by omega)
          have j2 : (v : Int) % (nC : Int) = ((v % nC : Nat) : Int) := by simp
          have j3 : ((nC : Int) == 0) = false := by simp; omega
          have j4 : (0 : Int) < (nC : Int) := by omega
          have j5 : ¬ (nC : Int) = 0 := by omega
          have hiN := Nat.mod_lt v hk
          obtain ⟨i, hi⟩ : ∃ i, v % nC = i := ⟨_, rfl⟩
          rw [hi] at j2 hiN
          obtain ⟨j, hj⟩ : ∃ j, j = i + 1 := ⟨_, rfl⟩
          have j6 : (i : Int) + 1 = (j : Int) := by omega
          have HJ := Lib.hid hj
          clear hi hj
          go_wp2_with fail
          simp only [j2]
          refine (Clone_any aC nC cC _ W4 HL4.out.iF (by omega) (by omega)).mono ?_
          rintro e w5 ⟨a', c', rfl, ho, b5⟩
          obtain ⟨gd, rfl⟩ := ho.addr hk
          have hgd := (ho.lt _ rfl).1
          simp only [] at hgd
          have HO := Lib.hid ho
          clear ho
          go_wp2_with fail
          refine (Delete_at W4.heap.size gd nC c' j i _ w5 HO.out hiN HJ.out).mono ?_
          rintro e w6 ⟨rfl, hI6, hg6⟩
          have hne3 : gd ≠ g3 := by omega
          have hne4 : gd ≠ g4 := by omega
          have b6 : Below W4.heap.size W4 w6 := b5.trans ((Below.refl _ _).grown hg6 b5.size (fun k hk => by obtain rfl := Option.some.inj hk; exact hgd))
          have hS3' := hS3.out.to b6
          have hS4' := hS4.out.to b6
          rw [li_erase] at hI6
          have hbw : Below W2.heap.size W2 (w6.setCell ⟨g4, 3, none⟩ (.slice (some ⟨gd, 0, none⟩) (nC - 1) c')) := (hb4.trans (b6.mono hW4)).setCell (p := ⟨g4, 3, none⟩) hg4 _
          have HLd := HL2.out.to hbw
          have HS1 : Hid (StB (w6.setCell ⟨g4, 3, none⟩ (.slice (some ⟨gd, 0, none⟩) (nC - 1) c')) g3 R C aM nM cM aC nC cC M (els 25 zk)) := Lib.hid ⟨hS3'.blk.other (p := ⟨g4, 3, none⟩) (fun e => hne e.symm) _, hS3'.il.sepPos hSP.out _, HLd.iF⟩
          have HS2 : Hid (StB (w6.setCell ⟨g4, 3, none⟩ (.slice (some ⟨gd, 0, none⟩) (nC - 1) c')) g4 R C aS nS cS (some ⟨gd, 0, none⟩) (nC - 1) c' (els 25 sk).reverse ((els 25 zk).eraseIdx i)) := Lib.hid ⟨hS4'.blk.set 3 _, HLd.iS, hI6.sepOther (fun x y hx hy => by
            obtain rfl := Option.some.inj hx
            obtain rfl := Option.some.inj hy
            exact hne4) _⟩
          have HMC := Lib.hid (HM0.out.erase i)
          have HBW := Lib.hid hbw
          have y0 := val hS4'.blk 3 rfl
          have y1 := hS4'.blk.frozen 3
          clear HLd hS3' hS4' hbw hg6 b6 hI6
          go_wp2_with fail
          go_meet
          exact ⟨rfl, _, _, _, _, HS1, HS2, HMC, HBW.out⟩
        · have d0 : decide ((0 : Int) < (nC : Int)) = false := by simp; omega
          have d0b : ¬ 0 < nC := hk
          go_wp2_with fail
          go_meet
          exact ⟨rfl, _, _, _, _, hS3, hS4, HM0, hb4⟩
      case rest =>
        obtain ⟨rfl, Z, aW, nW, cW, hS3', hS4', hMZ, hb5⟩ := hcut
        clear hS3 hS4 hb4 HL4 t3
        obtain ⟨W5, rfl⟩ : ∃ W, W = wc := ⟨_, rfl⟩
        have HL5 := Lib.hid (HL2.out.to hb5)
        have HD5 := Lib.hid (HD2.out.below hb5)
        have cx0 := val hS3'.out.blk 0 rfl
        have cx1 := val hS3'.out.blk 1 rfl
        have cx2 := val hS3'.out.blk 2 rfl
        have cx3 := val hS3'.out.blk 3 rfl
        have cx4 := val hS4'.out.blk 0 rfl
        have cx5 := val hS4'.out.blk 1 rfl
        have cx6 := val hS4'.out.blk 2 rfl
        have cx7 := val hS4'.out.blk 3 rfl
        have HG5 : Hid (ArrV VV (W5.alloc (.cells #[.int .i64 (R : Int), .int .i64 (C : Int), .slice aM nM cM, .slice aC nC cC, .int .i64 (R : Int), .int .i64 (C : Int), .slice aS nS cS, .slice aW nW cW] 24)) W5.heap.size 24 [.int .i64 (R : Int), .int .i64 (C : Int), .slice aM nM cM, .slice aC nC cC, .int .i64 (R : Int), .int .i64 (C : Int), .slice aS nS cS, .slice aW nW cW]) := Lib.hid (ArrV.new _ _ _ _ _ rfl (by simp [VV]))
        have HD6 := Lib.hid (HD5.out.below ((Below.refl W5.heap.size W5).alloc (Nat.le_refl _) (.cells #[.int .i64 (R : Int), .int .i64 (C : Int), .slice aM nM cM, .slice aC nC cC, .int .i64 (R : Int), .int .i64 (C : Int), .slice aS nS cS, .slice aW nW cW] 24)))
        have hW5l : gS + 1 < W5.heap.size := HL5.out.lt
        go_wp2_with fail
        go_loopw [88] (fun vi wr => ∃ i : Nat, i ≤ 2 ∧ vi = .int .i64 (i : Int) ∧ Below W5.heap.size W5 wr ∧ Hid (ArrV VV wr W5.heap.size 24 [.int .i64 (R : Int), .int .i64 (C : Int), .slice aM nM cM, .slice aC nC cC, .int .i64 (R : Int), .int .i64 (C : Int), .slice aS nS cS, .slice aW nW cW]) ∧ Hid (IsL wr ad nd cd (daysL R C zk sk))) (fun vi _ => 2 - (intOf vi).toNat)
        case atStart => exact ⟨0, by omega, rfl, (Below.refl _ _).alloc (Nat.le_refl _) _, HG5, HD6⟩
        case round =>
          clear HG5 HD6 cx0 cx1 cx2 cx3 cx4 cx5 cx6 cx7
          obtain ⟨i, hi, rfl, hb, hG, hD⟩ := hrel
          have hT := Lib.hid (HL5.out.to hb)
          rcases (by omega : i = 0 ∨ i = 1 ∨ i = 2) with rfl | rfl | rfl
          · skip
            have y0 := val hG.out 0 rfl
            have y1 := val hG.out 1 rfl
            have y2 := val hG.out 2 rfl
            have y3 := val hG.out 3 rfl
            have HDS := HDY.out M (els 25 zk) hMM.out
            obtain ⟨hE0, bL, hbL, hbl, hbc⟩ := HDS
            have HE0 := Lib.hid hE0
            have HBL := Lib.hid hbL
            have HBC := Lib.hid hbc
            have HBN := Lib.hid hbl
            clear hE0 hbL hbl hbc
            have hSi := hS3'.out.to hb
            have bal : Below wr.heap.size wr (wr.alloc (.cells #[.int .i64 (R : Int), .int .i64 (C : Int), .slice aM nM cM, .slice aC nC cC] 24)) := (Below.refl _ _).alloc (Nat.le_refl _) _
            have hSj := hSi.to bal
            have hTj := hT.out.to bal
            have HCD := Lib.hid (Days_c hSj.il hSj.iz hTj.tab HE0.out HBL.out)
            clear hSi hSj hTj
            go_wp2_with fail
            refine HCD.out.mono ?_
            rintro e w7 ⟨ab, nb, cb, rfl, hB, b7⟩
            have hnb := hB.len
            rw [HBN.out] at hnb
            obtain rfl : nb = nd := hnb.symm
            have hcb := hB.cap
            have hlb := hB.le
            have b8 : Below wr.heap.size wr w7 := bal.trans (b7.mono bal.size)
            have hb8 : Below W5.heap.size W5 w7 := hb.trans (b8.mono hb.size)
            have HG8 := Lib.hid (hG.out.below b8)
            have HD8 := Lib.hid (hD.out.below b8)
            have HB8 := Lib.hid hB
            clear HCD hB b7 b8 bal hG hD y0 y1 y2 y3 hnb
            obtain ⟨Wi, rfl⟩ : ∃ W, W = w7 := ⟨_, rfl⟩
            go_wp2_with fail
            go_loopw [108] (fun vn wr => ∃ t : Nat, t ≤ nb ∧ vn = .int .i64 (t : Int) ∧ Below Wi.heap.size Wi wr) (fun vn _ => nb - (intOf vn).toNat)
            case atStart => exact ⟨0, by omega, rfl, Below.refl _ _⟩
            case round =>
              obtain ⟨t, ht, rfl, hbt⟩ := hrel
              by_cases htl : t < nb
              · have q1 : (t : Int) < (nb : Int) := by omega
                obtain ⟨b1, o1, rfl, _, hc1⟩ := (HD8.out.below hbt).cells (by omega)
                obtain ⟨b2, o2, rfl, _, hc2⟩ := (HB8.out.below hbt).cells (by omega)
                have x1 := hc1 t htl
                have x2 := hc2 t htl
                have hcmp := HBC.out t htl
                obtain ⟨va, hva⟩ : ∃ v, (daysL R C zk sk).getD t 0 = v := ⟨_, rfl⟩
                obtain ⟨vb, hvb⟩ : ∃ v, bL.getD t 0 = v := ⟨_, rfl⟩
                rw [hva] at x1 hcmp
                rw [hvb] at x2 hcmp
                clear hc1 hc2 hva hvb
                by_cases h0 : 0 ≤ va
                · obtain ⟨h1, h2⟩ := hcmp h0
                  have e1 : decide (0 ≤ va) = true := by simpa using h0
                  have e2 : decide (vb < 0) = false := by simp; omega
                  have e3 : decide (va < vb) = false := by simp; omega
                  clear hcmp
                  go_wp2_with fail
                  go_quiet (fail)
                  go_wp2_with fail
                  go_roundw
                  case rel => first | exact ⟨t + 1, by omega, by go_num, belowN hbt _⟩ | ((repeat apply Exists.intro); exact ⟨⟨t + 1, by omega, by go_num, belowN hbt _⟩, rfl⟩)
                  case measure => (simp [intOf] <;> omega)
                · have e1 : decide (0 ≤ va) = false := by simpa using h0
                  clear hcmp
                  go_wp2_with fail
                  go_quiet (fail)
                  go_wp2_with fail
                  go_roundw
                  case rel => first | exact ⟨t + 1, by omega, by go_num, belowN hbt _⟩ | ((repeat apply Exists.intro); exact ⟨⟨t + 1, by omega, by go_num, belowN hbt _⟩, rfl⟩)
                  case measure => (simp [intOf] <;> omega)
              · obtain rfl : t = nb := by omega
                have hb9 : Below W5.heap.size W5 wr := hb8.trans (hbt.mono hb8.size)
                have HG9 := Lib.hid (HG8.out.below hbt)
                have HD9 := Lib.hid (HD8.out.below hbt)
                clear HG8 HD8 hbt hb8
                go_wp2_with fail
                go_roundw
                case rel => first | exact ⟨1, by omega, rfl, hb9, HG9, HD9⟩ | ((repeat apply Exists.intro); exact ⟨⟨1, by omega, rfl, hb9, HG9, HD9⟩, rfl⟩)
                case measure => (simp [intOf] <;> omega)
          · skip
            have y0 := val hG.out 4 rfl
            have y1 := val hG.out 5 rfl
            have y2 := val hG.out 6 rfl
            have y3 := val hG.out 7 rfl
            have HDS := HDY.out (els 25 sk).reverse Z hMZ.out
            obtain ⟨hE0, bL, hbL, hbl, hbc⟩ := HDS
            have HE0 := Lib.hid hE0
            have HBL := Lib.hid hbL
            have HBC := Lib.hid hbc
            have HBN := Lib.hid hbl
            clear hE0 hbL hbl hbc
            have hSi := hS4'.out.to hb
            have bal : Below wr.heap.size wr (wr.alloc (.cells #[.int .i64 (R : Int), .int .i64 (C : Int), .slice aS nS cS, .slice aW nW cW] 24)) := (Below.refl _ _).alloc (Nat.le_refl _) _
            have hSj := hSi.to bal
            have hTj := hT.out.to bal
            have HCD := Lib.hid (Days_c hSj.il hSj.iz hTj.tab HE0.out HBL.out)
            clear hSi hSj hTj
            go_wp2_with fail
            refine HCD.out.mono ?_
            rintro e w7 ⟨ab, nb, cb, rfl, hB, b7⟩
            have hnb := hB.len
            rw [HBN.out] at hnb
            obtain rfl : nb = nd := hnb.symm
            have hcb := hB.cap
            have hlb := hB.le
            have b8 : Below wr.heap.size wr w7 := bal.trans (b7.mono bal.size)
            have hb8 : Below W5.heap.size W5 w7 := hb.trans (b8.mono hb.size)
            have HG8 := Lib.hid (hG.out.below b8)
            have HD8 := Lib.hid (hD.out.below b8)
            have HB8 := Lib.hid hB
            clear HCD hB b7 b8 bal hG hD y0 y1 y2 y3 hnb
            obtain ⟨Wi, rfl⟩ : ∃ W, W = w7 := ⟨_, rfl⟩
            go_wp2_with fail
            go_loopw [108] (fun vn wr => ∃ t : Nat, t ≤ nb ∧ vn = .int .i64 (t : Int) ∧ Below Wi.heap.size Wi wr) (fun vn _ => nb - (intOf vn).toNat)
            case atStart => exact ⟨0, by omega, rfl, Below.refl _ _⟩
            case round =>
              obtain ⟨t, ht, rfl, hbt⟩ := hrel
              by_cases htl : t < nb
              · have q1 : (t : Int) < (nb : Int) := by omega
                obtain ⟨b1, o1, rfl, _, hc1⟩ := (HD8.out.below hbt).cells (by omega)
                obtain ⟨b2, o2, rfl, _, hc2⟩ := (HB8.out.below hbt).cells (by omega)
                have x1 := hc1 t htl
                have x2 := hc2 t htl
                have hcmp := HBC.out t htl
                obtain ⟨va, hva⟩ : ∃ v, (daysL R C zk sk).getD t 0 = v := ⟨_, rfl⟩
                obtain ⟨vb, hvb⟩ : ∃ v, bL.getD t 0 = v := ⟨_, rfl⟩
                rw [hva] at x1 hcmp
                rw [hvb] at x2 hcmp
                clear hc1 hc2 hva hvb
                by_cases h0 : 0 ≤ va
                · obtain ⟨h1, h2⟩ := hcmp h0
                  have e1 : decide (0 ≤ va) = true := by simpa using h0
                  have e2 : decide (vb < 0) = false := by simp; omega
                  have e3 : decide (va < vb) = false := by simp; omega
                  clear hcmp
                  go_wp2_with fail
                  go_quiet (fail)
                  go_wp2_with fail
                  go_roundw
                  case rel => first | exact ⟨t + 1, by omega, by go_num, belowN hbt _⟩ | ((repeat apply Exists.intro); exact ⟨⟨t + 1, by omega, by go_num, belowN hbt _⟩, rfl⟩)
                  case measure => (simp [intOf] <;> omega)
                · have e1 : decide (0 ≤ va) = false := by simpa using h0
                  clear hcmp
                  go_wp2_with fail
                  go_quiet (fail)
                  go_wp2_with fail
                  go_roundw
                  case rel => first | exact ⟨t + 1, by omega, by go_num, belowN hbt _⟩ | ((repeat apply Exists.intro); exact ⟨⟨t + 1, by omega, by go_num, belowN hbt _⟩, rfl⟩)
                  case measure => (simp [intOf] <;> omega)
              · obtain rfl : t = nb := by omega
                have hb9 : Below W5.heap.size W5 wr := hb8.trans (hbt.mono hb8.size)
                have HG9 := Lib.hid (HG8.out.below hbt)
                have HD9 := Lib.hid (HD8.out.below hbt)
                clear HG8 HD8 hbt hb8
                go_wp2_with fail
                go_roundw
                case rel => first | exact ⟨2, by omega, rfl, hb9, HG9, HD9⟩ | ((repeat apply Exists.intro); exact ⟨⟨2, by omega, rfl, hb9, HG9, HD9⟩, rfl⟩)
                case measure => (simp [intOf] <;> omega)
          · go_wp2_with fail
            refine (works_any _ hT.out.tab).mono ?_
            rintro e w7 ⟨rfl, b7⟩
            have hk := (hT.out.to b7).below
            go_wp2
            go_ret
            exact ⟨rfl, hk⟩
end Go.Proofs.YtbhjphcomppjgaaDoor
