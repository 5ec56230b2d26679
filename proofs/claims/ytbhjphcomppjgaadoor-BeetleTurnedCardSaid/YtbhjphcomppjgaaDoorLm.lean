/- Law of chapter 9: BeetleTurned. -/
import Derived.Test.YtbhjphcomppjgaaDoorVf
import Derived.Test.YtbhjphcomppjgaaDoorPy
namespace Go.Proofs.YtbhjphcomppjgaaDoor
open Go.RowKit Beetle09
theorem setC_isL {w : World} {a : Option Addr} {n c g i : Nat} {l : List Int} (h : IsL w a n c l) (hs : Sep a (some ⟨g, 0, none⟩)) (v : Value) : IsL (w.setCell ⟨g, i, none⟩ v) a n c l :=
  IsL.grown (o := some ⟨g, 0, none⟩) (k := 0) (co := 0) h (by simpa [Value.ownBlock] using grown_setCell w g i v) hs
theorem setC_pos {w : World} {a : Option Addr} {n c g i : Nat} {l : List Int} (h : IsL w a n c l) (hs : 0 < n → Sep a (some ⟨g, 0, none⟩)) (v : Value) : IsL (w.setCell ⟨g, i, none⟩ v) a n c l := by
  by_cases hn : 0 < n
  · exact setC_isL h (hs hn) v
  · exact ⟨h.len, h.le, h.cap, h.nil, fun hp => absurd hp hn⟩
theorem drew_size {w w5 : World} (h : Below w.drew.heap.size w.drew w5) : w.heap.size ≤ w5.heap.size := h.size
theorem grown_pos {w w' : World} {a o : Option Addr} {n c k co : Nat} {l : List Int} (h : IsL w a n c l) (hg : w.grownBy w' (Value.slice o k co).ownBlock) (hs : 0 < n → Sep a o) : IsL w' a n c l := by
  by_cases hn : 0 < n
  · exact h.grown hg (hs hn)
  · exact ⟨h.len, h.le, h.cap, h.nil, fun hp => absurd hp hn⟩
theorem at_isL2 {w : World} {bb oo n c i : Nat} {l : List Int} (h : IsL w (some ⟨bb, oo, none⟩) n c l) (hi : i < n) : w.cell? ⟨bb, oo + i, none⟩ = some (.int .i64 (l.getD i 0)) := by
  obtain ⟨b9, o9, e9, _, hc⟩ := h.cells (by omega)
  obtain ⟨rfl, rfl⟩ : b9 = bb ∧ o9 = oo := by simpa [eq_comm] using e9
  exact hc i hi
theorem sd_swap {R C : Nat} (h : Sd R C) : Sd C R := ⟨h.c1, h.c5, h.r1, h.r5⟩
theorem getD_mem_lt {N : Nat} {l : List Nat} (h : ∀ i ∈ l, i < N) {i : Nat} (hi : i < l.length) : l.getD i 0 < N := by
  rw [show l.getD i 0 = l[i] by simp [List.getD, hi]]
  exact h _ (List.getElem_mem hi)
theorem trn0 {R C n q t M : Nat} (hq : n / C = q) (ht : n % C = t) (hM : q * C = M) : trn 0 R C n = M + C - 1 - t := by
  unfold trn; rw [if_pos rfl, hq, ht, hM]
theorem trn1 {R C n q t D M : Nat} (hq : n / C = q) (ht : n % C = t) (hD : R - 1 - q = D) (hM : D * C = M) : trn 1 R C n = M + C - 1 - t := by
  unfold trn; rw [if_neg (by omega), if_pos rfl, hq, ht, hD, hM]
theorem trn2 {R C n q t M : Nat} (hq : n / C = q) (ht : n % C = t) (hM : t * R = M) : trn 2 R C n = M + q := by
  unfold trn; rw [if_neg (by omega), if_neg (by omega), hq, ht, hM]
set_option maxHeartbeats 8000000 in
set_option maxRecDepth 100000 in
theorem to_any (K R C n gp gk : Nat) (w : World) (hK : K < 3) (hs : Sd R C) (hn : n < R * C) (hp : ArrV VV w gp 60 (plL R C)) (hk : ArrV VV w gk 3 [.int .i64 (K : Int)]) :
    Calls Tryd.prog 44 #[.int .i64 (n : Int), .pointer (some ⟨gp, 0, none⟩), .pointer (some ⟨gk, 0, none⟩)] w fun e w' => e = .returned (.int .i64 ((trn K R C n : Nat) : Int)) ∧ ∃ m, w' = w.drewN m := by
  obtain ⟨hR1, hR, hC1, hC⟩ := hs
  have hi25 : n < 25 := Nat.lt_of_lt_of_le hn (Nat.le_trans (Nat.mul_le_mul hR hC) (by decide))
  obtain ⟨q, hq⟩ : ∃ q, n / C = q := ⟨_, rfl⟩
  obtain ⟨t, ht⟩ : ∃ t, n % C = t := ⟨_, rfl⟩
  have f1 : (n : Int) / (C : Int) = (q : Int) := by rw [← hq]; simp
  have f2 : (n : Int) % (C : Int) = (t : Int) := by rw [← ht]; simp
  have f3 : ((C : Int) == 0) = false := by simp; omega
  have f4 : (0 : Int) < (C : Int) := by omega
  have f5 : ¬ (C : Int) = 0 := by omega
  have hqR : q < R := by rw [← hq]; exact (Nat.div_lt_iff_lt_mul (by omega)).2 hn
  have htC : t < C := by rw [← ht]; exact Nat.mod_lt _ (by omega)
  have x0 := val hp 0 rfl
  have x1 := val hp 1 rfl
  have x2 := val hk 0 rfl
  rcases (by omega : K = 0 ∨ K = 1 ∨ K = 2) with hK0 | hK1 | hK2
  · obtain ⟨M, hM⟩ : ∃ M, q * C = M := ⟨_, rfl⟩
    have hM20 : M ≤ 20 := by rw [← hM]; exact Nat.mul_le_mul (by omega : q ≤ 4) hC
    have HR : Hid (((trn K R C n : Nat) : Int) = (M : Int) + (C : Int) - 1 - (t : Int)) := Lib.hid (by rw [hK0, trn0 hq ht hM]; omega)
    have m1 : (q : Int) * (C : Int) = (M : Int) := by rw [← hM]; simp
    have k0 : ((K : Int) == 0) = true := by simp; omega
    clear hq ht hM hK0 hn hp hk
    go_enter Tryd.func44, Tryd.ntmps44
    go_wp2_with fail
    go_quiet (fail)
    simp only [f2]
    go_wp2
    go_ret
    exact ⟨ret_i HR.out.symm, _, rfl⟩
  · obtain ⟨D, hD⟩ : ∃ D, R - 1 - q = D := ⟨_, rfl⟩
    obtain ⟨M, hM⟩ : ∃ M, D * C = M := ⟨_, rfl⟩
    have hM20 : M ≤ 20 := by rw [← hM]; exact Nat.mul_le_mul (by omega : D ≤ 4) hC
    have HR : Hid (((trn K R C n : Nat) : Int) = (M : Int) + (C : Int) - 1 - (t : Int)) := Lib.hid (by rw [hK1, trn1 hq ht hD hM]; omega)
    have d1 : (R : Int) - 1 - (q : Int) = (D : Int) := by omega
    have m1 : (D : Int) * (C : Int) = (M : Int) := by rw [← hM]; simp
    have k0 : ((K : Int) == 0) = false := by simp; omega
    have k1 : ((K : Int) == 1) = true := by simp; omega
    clear hq ht hM hK1 hn hp hk hD
    go_enter Tryd.func44, Tryd.ntmps44
    go_wp2_with fail
    go_quiet (fail)
    simp only [f2]
    go_wp2
    go_ret
    exact ⟨ret_i HR.out.symm, _, rfl⟩
  · obtain ⟨M, hM⟩ : ∃ M, t * R = M := ⟨_, rfl⟩
    have hM20 : M ≤ 20 := by rw [← hM]; exact Nat.mul_le_mul (by omega : t ≤ 4) hR
    have HR : Hid (((trn K R C n : Nat) : Int) = (M : Int) + (q : Int)) := Lib.hid (by rw [hK2, trn2 hq ht hM]; omega)
    have m1 : (t : Int) * (R : Int) = (M : Int) := by rw [← hM]; simp
    have k0 : ((K : Int) == 0) = false := by simp; omega
    have k1 : ((K : Int) == 1) = false := by simp; omega
    clear hq ht hM hK2 hn hp hk
    go_enter Tryd.func44, Tryd.ntmps44
    go_wp2_with fail
    go_quiet (fail)
    simp only [f2]
    go_wp2
    go_ret
    exact ⟨ret_i HR.out.symm, _, rfl⟩
set_option maxHeartbeats 32000000 in
set_option maxRecDepth 100000 in
theorem BeetleTurned_any (p q x y : Nat) (w : World) (hp : p < 256) (hq : q < 256) (hx : x < 4294967296) (hy : y < 4294967296) (hT : Tab w) : Calls Tryd.prog 8 #[floV p q x y] w fun e w' => e = .returned (.bool true) ∧ Below w.heap.size w w' := by
  have HM := Lib.hid (made5_any p q x y true (w.alloc (.cells (floL p q x y).toArray 58)) hp hq hx hy)
  have HMO := Lib.hid (mk_open (p := p) (q := q) (x := x) (y := y) (b := true) (M := 5) (by decide) (by decide))
  have HTT := Lib.hid hT
  clear hT
  go_enter Tryd.func8, Tryd.ntmps8
  go_wp2_with fail
  refine HM.out.mono ?_
  rintro e w1 ⟨aS, nS, cS, aC, nC, cC, rfl, hS, hF, hb⟩
  obtain ⟨R, hR⟩ : ∃ R, mkN p 5 = R := ⟨_, rfl⟩
  obtain ⟨C, hC⟩ : ∃ C, mkN q 5 = C := ⟨_, rfl⟩
  rw [hR, hC] at hS hF HMO
  simp only [hR, hC]
  obtain ⟨sk, hsk⟩ : ∃ sk, mkS (R * C) x = sk := ⟨_, rfl⟩
  obtain ⟨zk, hzk⟩ : ∃ zk, mkZ true (R * C) x y = zk := ⟨_, rfl⟩
  rw [hsk] at hS HMO
  rw [hzk] at hF HMO
  simp only [hsk, hzk]
  have HZK := Lib.hid hzk
  have H0 := Lib.hid HMO.out.1
  have HOP := Lib.hid HMO.out.2
  have n25 := HOP.out.sd.n25
  have hR5 := HOP.out.sd.r5
  have hC5 := HOP.out.sd.c5
  have hs25 := HOP.out.s25
  have hz25 := HOP.out.z25
  have HL0 := Lib.hid (LwS.start (R := R) (C := C) hS hF HTT.out hb)
  clear HM HMO hS hF hb HTT hR hC hsk hzk
  obtain ⟨gS, hgS⟩ : ∃ g, w1.heap.size = g := ⟨_, rfl⟩
  go_wp2_with fail
  rw [hgS] at HL0
  obtain ⟨W, hW⟩ : ∃ W, ((w1.alloc (.cells #[.int .i64 (R : Int), .int .i64 (C : Int), .slice aS nS cS, .slice aC nC cC] 24)).alloc (.cells #[.int .i64 (R : Int), .int .i64 (C : Int)] 60)) = W := ⟨_, rfl⟩
  rw [hW] at HL0 ⊢
  clear hW hgS
  have hWs := HL0.out.lt
  have HDE := Lib.hid (HOP.out.days H0.out)
  have HO1 := Lib.hid (HOP.out.out1 H0.out)
  have HO2 := Lib.hid (HOP.out.out2 H0.out)
  have HTU : Hid (∀ K, K < 3 → ∀ l m, l = ((els 25 sk).reverse.map (trn K R C)).reverse → m = (els 25 zk).map (trn K R C) → openE (trR K R C : Int) (trC K R C : Int) (li l) (li m) = 0 ∧ (daysE (trR K R C : Int) (trC K R C : Int) (li l) (li m)).length = R * C ∧ (∀ n, n < R * C → (daysE (trR K R C : Int) (trC K R C : Int) (li l) (li m)).getD (trn K R C n) 0 = (daysL R C zk sk).getD n 0) ∧ out1E (trR K R C : Int) (trC K R C : Int) (li l) (li m) = outl R C sk ∧ out2E (trR K R C : Int) (trC K R C : Int) (li l) (li m) = outl R C (fin R C zk sk)) := Lib.hid fun K hK l m hl hm => turned hK HOP.out.sd HOP.out.rs.lt HOP.out.rz.lt HOP.out.dj hl hm
  have HSD := Lib.hid HOP.out.sd
  have HTL : Hid (∀ K n, K < 3 → n < R * C → trn K R C n < R * C) := Lib.hid fun K n hK hn => trn_lt hK HSD.out hn
  have HLS : Hid (∀ i, i < (els 25 sk).reverse.length → (els 25 sk).reverse.getD i 0 < R * C) := Lib.hid fun i hi => getD_mem_lt (fun j hj => by rw [List.mem_reverse, els_top HOP.out.rs.lt n25, mem_els] at hj; exact hj.1) hi
  have HLZ : Hid (∀ i, i < (els 25 zk).length → (els 25 zk).getD i 0 < R * C) := Lib.hid fun i hi => getD_mem_lt (fun j hj => by rw [els_top HOP.out.rz.lt n25, mem_els] at hj; exact hj.1) hi
  obtain ⟨N, hN⟩ : ∃ N, R * C = N := ⟨_, rfl⟩
  have m1 : (R : Int) * (C : Int) = (N : Int) := by rw [← hN]; simp
  have HN := Lib.hid hN
  rw [hN] at n25
  have t0 := val HL0.out.st 0 rfl
  have t1 := val HL0.out.st 1 rfl
  have t2 := val HL0.out.st 2 rfl
  have t3 := val HL0.out.st 3 rfl
  clear hN
  refine (Days_c HL0.out.iS HL0.out.iF HL0.out.tab H0.out HDE.out).mono ?_
  rintro e w2 ⟨ad, nd, cd, rfl, hd, b2⟩
  have hnd := hd.len
  rw [daysL_len, HN.out] at hnd
  obtain rfl : nd = N := hnd.symm
  have hcd := hd.cap
  have hld := hd.le
  have HD2 := Lib.hid hd
  have HL2 := Lib.hid (HL0.out.to b2)
  clear t0 t1 t2 t3 hd hnd b2
  have z0 := val HL2.out.pl 0 rfl
  have z1 := val HL2.out.pl 1 rfl
  have t0 := val HL2.out.st 0 rfl
  have t1 := val HL2.out.st 1 rfl
  have t2 := val HL2.out.st 2 rfl
  have t3 := val HL2.out.st 3 rfl
  have HCO := Lib.hid (Outline_c HL2.out.iS HL2.out.iF HL2.out.tab H0.out HO1.out HO2.out)
  obtain ⟨X, hX⟩ : ∃ X, outl R C sk = X := ⟨_, rfl⟩
  obtain ⟨Y, hY⟩ : ∃ Y, outl R C (fin R C zk sk) = Y := ⟨_, rfl⟩
  rw [hX, hY] at HCO HTU
  have eX : (X != X) = false := by simp
  have eY : (Y != Y) = false := by simp
  clear hX hY HO1 HO2 HDE
  go_wp2_with fail
  refine HCO.out.mono ?_
  rintro e w3 ⟨rfl, b3⟩
  have HL3 := Lib.hid (HL2.out.to b3)
  have HD3 := Lib.hid (HD2.out.below b3)
  clear HCO HL2 HD2 HL0 b3 z0 z1 t0 t1 t2 t3 hWs
  obtain ⟨W, rfl⟩ : ∃ W, W = w3 := ⟨_, rfl⟩
  have hgW := HL3.out.lt
  go_wp2_with fail
  go_loopw [59] (fun vk wr => ∃ K : Nat, K ≤ 3 ∧ vk = .int .i64 (K : Int) ∧ Below W.heap.size W wr) (fun vk _ => 3 - (intOf vk).toNat)
  case atStart => exact ⟨0, by omega, rfl, Below.refl _ _⟩
  case round =>
    obtain ⟨K, hK, rfl, hb⟩ := hrel
    have hsz := hb.size
    have HLK := Lib.hid (HL3.out.to hb)
    have z0 := val HLK.out.pl 0 rfl
    have z1 := val HLK.out.pl 1 rfl
    by_cases hK3 : K < 3
    · have q0 : (K : Int) < 3 := by omega
      obtain ⟨Wk, rfl⟩ : ∃ W, W = wr := ⟨_, rfl⟩
      have hbk : Below Wk.heap.size Wk (Wk.alloc (.cells #[.int .i64 (K : Int)] 3)) := (Below.refl _ _).alloc (Nat.le_refl _) _
      have HKB0 : Hid (ArrV VV (Wk.alloc (.cells #[.int .i64 (K : Int)] 3)) Wk.heap.size 3 [.int .i64 (K : Int)]) := Lib.hid (ArrV.new _ _ _ _ _ rfl rfl)
      have HLO := Lib.hid (HLK.out.to hbk)
      have x0 := val HLO.out.pl 0 rfl
      have x1 := val HLO.out.pl 1 rfl
      have HAO := Lib.hid (((Below.refl _ _).alloc (Nat.le_refl _) (.cells #[.int .i64 (R : Int), .int .i64 (C : Int), .slice none 0 0, .slice none 0 0] 24)) : Below (Wk.alloc (.cells #[.int .i64 (K : Int)] 3)).heap.size (Wk.alloc (.cells #[.int .i64 (K : Int)] 3)) ((Wk.alloc (.cells #[.int .i64 (K : Int)] 3)).alloc (.cells #[.int .i64 (R : Int), .int .i64 (C : Int), .slice none 0 0, .slice none 0 0] 24)))
      have HLP := Lib.hid (HLO.out.to HAO.out)
      have u0 := val HLP.out.pl 0 rfl
      have u1 := val HLP.out.pl 1 rfl
      have HAP : Hid (ArrV VV ((Wk.alloc (.cells #[.int .i64 (K : Int)] 3)).alloc (.cells #[.int .i64 (R : Int), .int .i64 (C : Int), .slice none 0 0, .slice none 0 0] 24)) (Wk.heap.size + 1) 24 [.int .i64 (R : Int), .int .i64 (C : Int), .slice none 0 0, .slice none 0 0]) := Lib.hid (ArrV.new _ _ _ _ _ (by simp) (by simp [VV]))
      have hgl := HLK.out.lt
      have hn1 : ¬ gS = Wk.heap.size := by omega
      have hn2 : ¬ Wk.heap.size = gS := by omega
      have hf0 := HAP.out.frozen 0
      have hf1 := HAP.out.frozen 1
      have HBP : Hid (Below (Wk.heap.size + 1) (Wk.alloc (.cells #[.int .i64 (K : Int)] 3)) ((Wk.alloc (.cells #[.int .i64 (K : Int)] 3)).alloc (.cells #[.int .i64 (R : Int), .int .i64 (C : Int), .slice none 0 0, .slice none 0 0] 24))) := Lib.hid ((Below.refl _ _).alloc (by simp) _)
      obtain ⟨R2, hR2⟩ : ∃ R2, trR K R C = R2 := ⟨_, rfl⟩
      obtain ⟨C2, hC2⟩ : ∃ C2, trC K R C = C2 := ⟨_, rfl⟩
      have HR2 := Lib.hid hR2
      have HC2 := Lib.hid hC2
      clear hR2 hC2
      go_upto_if 69 with fail
      go_cut [] (fun wx => Hid (ArrV VV wx (Wk.heap.size + 1) 24 [.int .i64 (R2 : Int), .int .i64 (C2 : Int), .slice none 0 0, .slice none 0 0]) ∧ Below (Wk.heap.size + 1) (Wk.alloc (.cells #[.int .i64 (K : Int)] 3)) wx)
      case first =>
        obtain ⟨W2, hW2⟩ : ∃ W2, ((Wk.alloc (.cells #[.int .i64 (K : Int)] 3)).alloc (.cells #[.int .i64 (R : Int), .int .i64 (C : Int), .slice none 0 0, .slice none 0 0] 24)) = W2 := ⟨_, rfl⟩
        rw [hW2] at HAP HBP HLP u0 u1 hf0 hf1 ⊢
        clear hW2 x0 x1 z0 z1 HAO
        have o0 := val HAP.out 0 rfl
        have o1 := val HAP.out 1 rfl
        by_cases hK2 : K = 2
        · obtain rfl : C = R2 := by rw [← HR2.out]; unfold trR; rw [if_pos hK2]
          obtain rfl : R = C2 := by rw [← HC2.out]; unfold trC; rw [if_pos hK2]
          have e2 : ((K : Int) == 2) = true := by simp; omega
          clear hK2
          go_wp2_with fail
          go_region
          all_goals
            go_wp2_with fail
            go_meet
            first
              | exact ⟨Lib.hid ((HAP.out.drew.set 0 _).set 1 _), (((HBP.out.drew).setCell (p := ⟨Wk.heap.size + 1, 0, none⟩) (Nat.le_refl _) _).setCell (p := ⟨Wk.heap.size + 1, 1, none⟩) (Nat.le_refl _) _)⟩
              | exact ⟨Lib.hid ((HAP.out.drew.set 1 _).set 0 _), (((HBP.out.drew).setCell (p := ⟨Wk.heap.size + 1, 1, none⟩) (Nat.le_refl _) _).setCell (p := ⟨Wk.heap.size + 1, 0, none⟩) (Nat.le_refl _) _)⟩
        · obtain rfl : R = R2 := by rw [← HR2.out]; unfold trR; rw [if_neg hK2]
          obtain rfl : C = C2 := by rw [← HC2.out]; unfold trC; rw [if_neg hK2]
          have e2 : ((K : Int) == 2) = false := by simp; omega
          clear hK2
          go_wp2_with fail
          go_meet
          exact ⟨HAP, HBP.out⟩
      case rest =>
        obtain ⟨hAO2, hbO⟩ := hcut
        obtain ⟨Wo, rfl⟩ : ∃ W, W = wc := ⟨_, rfl⟩
        clear x0 x1 z0 z1 u0 u1 hf0 hf1 HBP HAP HLP HAO
        have hbO' : Below (Wk.alloc (.cells #[.int .i64 (K : Int)] 3)).heap.size (Wk.alloc (.cells #[.int .i64 (K : Int)] 3)) Wo := by simpa using hbO
        have HKB := Lib.hid (HKB0.out.below hbO')
        have hbWk : Below Wk.heap.size Wk Wo := hbk.trans (hbO.mono (by omega))
        have HLO2 := Lib.hid (HLK.out.to hbWk)
        have hgoS := hAO2.out.lt
        have y0 := val HLO2.out.st 2 rfl
        have hlS := HLO2.out.iS.len
        rw [li_len] at hlS
        have hnS25 : nS ≤ 25 := by rw [List.length_reverse, els_len] at hlS; have := pcN_le 25 sk; omega
        have HLN := Lib.hid hlS
        have hcS := HLO2.out.iS.cap
        have hleS := HLO2.out.iS.le
        obtain ⟨LS, hLS⟩ : ∃ L, (els 25 sk).reverse = L := ⟨_, rfl⟩
        have HLSE := Lib.hid hLS
        have HLSB : Hid (∀ i, i < LS.length → LS.getD i 0 < nd) := Lib.hid (by rw [← hLS, ← HN.out]; exact HLS.out)
        rw [hLS] at HLN HLO2 HLK
        have H44 : Hid (∀ v w', v < nd → Below (Wk.heap.size + 1) Wo w' → Calls Tryd.prog 44 #[.int .i64 ((v : Nat) : Int), .pointer (some ⟨gS + 1, 0, none⟩), .pointer (some ⟨Wk.heap.size, 0, none⟩)] w' fun e w2 => e = .returned (.int .i64 ((trn K R C v : Nat) : Int)) ∧ Below w'.heap.size w' w2) := Lib.hid fun v w' hv h => (to_any K R C v (gS + 1) Wk.heap.size w' hK3 HSD.out (by rw [HN.out]; exact hv) ((h.block _ (by omega)).trans HLO2.out.pl) ((h.block _ (by omega)).trans HKB.out)).mono fun _ _ ⟨he, m, hm⟩ => ⟨he, by rw [hm]; exact belowN (Below.refl _ _) _⟩
        clear hLS hlS hbk HLO
        go_wp2_with fail
        go_loopw [79] (fun vi wr => ∃ (t : Nat) (a2 : Option Addr) (c2 : Nat), t ≤ nS ∧ vi = .int .i64 (t : Int) ∧ Hid (ArrV VV wr (Wk.heap.size + 1) 24 [.int .i64 (R2 : Int), .int .i64 (C2 : Int), .slice a2 t c2, .slice none 0 0]) ∧ Hid (IsL wr a2 t c2 (li ((LS.take t).map (trn K R C)).reverse)) ∧ Hid (0 < t → Sep a2 (some ⟨Wk.heap.size + 1, 0, none⟩)) ∧ Below (Wk.heap.size + 1) Wo wr) (fun vi _ => nS - (intOf vi).toNat)
        case atStart => exact ⟨0, none, 0, by omega, rfl, hAO2, Lib.hid (IsL.nilL _), Lib.hid (fun h => by omega), Below.refl _ _⟩
        case round =>
          clear hAO2 y0
          obtain ⟨t, a2, c2, ht, rfl, hA, hI, hSP, hbt⟩ := hrel
          have hszt := hbt.size
          have hgl2 := hA.out.lt
          by_cases htS : t < nS
          · have q1 : (t : Int) < (nS : Int) := by omega
            have htl : t < LS.length := by have := HLN.out; omega
            have hvN := HLSB.out t htl
            have HTK : Hid (li ((LS.take (t + 1)).map (trn K R C)).reverse = [((trn K R C (LS.getD t 0) : Nat) : Int)] ++ li ((LS.take t).map (trn K R C)).reverse) := Lib.hid (by
              rw [List.take_succ_eq_append_getElem htl, List.map_append, List.reverse_append, li_app, show LS.getD t 0 = LS[t] by simp [List.getD, htl]]; rfl)
            obtain ⟨bs, os, rfl⟩ : ∃ b o, aS = some ⟨b, o, none⟩ := by
              obtain ⟨b, o, h, _⟩ := HLO2.out.iS.cells (by omega)
              exact ⟨b, o, h⟩
            have HLT := Lib.hid (HLK.out.to (hbWk.trans (hbt.mono (by omega))))
            obtain ⟨bb, ob, hbb, _, hcs⟩ := HLT.out.iS.cells (by omega)
            obtain ⟨rfl, rfl⟩ : bb = bs ∧ ob = os := by simpa [eq_comm] using hbb
            have y1 := hcs t htS
            rw [li_get] at y1
            obtain ⟨v, hv⟩ : ∃ v, LS.getD t 0 = v := ⟨_, rfl⟩
            rw [hv] at HTK hvN y1
            have o2 := val hA.out 2 rfl
            have HC44 := Lib.hid (H44.out v wr.drew hvN hbt.drew)
            obtain ⟨tv, htv⟩ : ∃ tv, trn K R C v = tv := ⟨_, rfl⟩
            rw [htv] at HC44 HTK
            have hi2 := hI.out.cap
            have hl2 := hI.out.le
            have hgl3 : Wk.heap.size + 1 ≤ wr.drew.heap.size := by have h9 : wr.drew.heap.size = wr.heap.size := rfl
                                                                   omega
            have mixed : Tryd.prog.follows Departure.mixedOrders = true := by kernel_rfl
            clear hcs hbb hv htv
            go_wp2_with fail
            go_region_law_o (first
              | (refine step_app_full Tryd.underlying22 elem3 (.tmp 86) (.tmp 88) ?_ ?_ ?_ ?_ (isL_one _ _ _) (hI5.alloc _) (by omega) ?_; rfl; rfl; rfl; rfl; intro a7 c7 w7 ho7 hb7 hv7; have hA7 := (hA5.alloc (.cells #[.int .i64 (tv : Int)] 3)).below hb7; have o7 := val hA7 2 rfl; have f7 := hA7.frozen 2)
              | (go_simp; with_reducible refine HC44.out.mono ?_; rintro e w5 ⟨rfl, hG⟩; have hb5 : Below (Wk.heap.size + 1) Wo w5 := hbt.drew.trans (hG.mono hgl3); have hA5 := (hA.out.drew.below hG); have hI5 := hI.out.drew.below hG; have o5 := val hA5 2 rfl; have o6 := val (hA5.alloc (.cells #[.int .i64 (tv : Int)] 3)) 2 rfl))
            all_goals
              have hsG := drew_size hG
              have hsep : Sep a7 (some ⟨Wk.heap.size + 1, 0, none⟩) := fun x y hx hy => by
                obtain rfl := Option.some.inj hy
                rcases hv7 x hx with ⟨z, hz, hzx⟩ | hge
                · obtain rfl := Option.some.inj hz
                  simp at hzx
                  show x.block ≠ Wk.heap.size + 1
                  omega
                · simp at hge
                  show x.block ≠ Wk.heap.size + 1
                  omega
              have HA8 : Hid (ArrV VV (w7.setCell ⟨Wk.heap.size + 1, 2, none⟩ (.slice a7 (1 + t) c7)) (Wk.heap.size + 1) 24 [.int .i64 (R2 : Int), .int .i64 (C2 : Int), .slice a7 (t + 1) c7, .slice none 0 0]) := Lib.hid (by
                have := hA7.set 2 (.slice a7 (1 + t) c7)
                rw [show 1 + t = t + 1 by omega] at this ⊢
                exact this)
              have HI8 : Hid (IsL (w7.setCell ⟨Wk.heap.size + 1, 2, none⟩ (.slice a7 (1 + t) c7)) a7 (t + 1) c7 (li ((LS.take (t + 1)).map (trn K R C)).reverse)) := Lib.hid (by
                rw [HTK.out]
                rw [show 1 + t = t + 1 by omega] at ho7
                exact setC_isL ho7 hsep _)
              have hb8 : Below (Wk.heap.size + 1) Wo (w7.setCell ⟨Wk.heap.size + 1, 2, none⟩ (.slice a7 (1 + t) c7)) := ((hb5.alloc (by omega) _).trans (hb7.mono (by simp; omega))).setCell (p := ⟨Wk.heap.size + 1, 2, none⟩) (Nat.le_refl _) _
              have HS8 : Hid (0 < t + 1 → Sep a7 (some ⟨Wk.heap.size + 1, 0, none⟩)) := Lib.hid fun _ => hsep
              clear hA hI hSP hbt HLT HC44 hb5 hA5 hI5 o2 o5 o6 ho7 hb7 hv7 hA7 hG hsep
              go_wp2_with fail
              go_roundw
              case rel => first | exact ⟨t + 1, a7, c7, by omega, by go_num, HA8, HI8, HS8, hb8⟩ | ((repeat apply Exists.intro); exact ⟨⟨t + 1, a7, c7, by omega, by go_num, HA8, HI8, HS8, hb8⟩, rfl⟩)
              case measure => (simp [intOf] <;> omega)
          · obtain rfl : nS = t := by omega
            have HI1 : Hid (IsL wr a2 nS c2 (li (LS.map (trn K R C)).reverse)) := Lib.hid (by have := hI.out; rwa [List.take_of_length_le (by rw [HLN.out]; exact Nat.le_refl _)] at this)
            have HI1L : Hid (0 < nS → ∀ x, a2 = some x → x.block < wr.heap.size) := Lib.hid fun h => HI1.out.lt h
            have hsep1 : Hid (0 < nS → Sep a2 (some ⟨Wk.heap.size + 1, 0, none⟩)) := hSP
            obtain ⟨Wf, rfl⟩ : ∃ W, W = wr := ⟨_, rfl⟩
            have hbWf : Below Wk.heap.size Wk Wf := hbWk.trans (hbt.mono (by omega))
            have HLF := Lib.hid (HLK.out.to hbWf)
            have y0 := val HLF.out.st 3 rfl
            have hlC := HLF.out.iF.len
            rw [li_len] at hlC
            have hnC25 : nC ≤ 25 := by rw [els_len] at hlC; have := pcN_le 25 zk; omega
            have hcC := HLF.out.iF.cap
            have hleC := HLF.out.iF.le
            have HLC := Lib.hid hlC
            obtain ⟨LZ, hLZ⟩ : ∃ L, els 25 zk = L := ⟨_, rfl⟩
            have HLZE := Lib.hid hLZ
            have HLZB : Hid (∀ i, i < LZ.length → LZ.getD i 0 < nd) := Lib.hid (by rw [← hLZ, ← HN.out]; exact HLZ.out)
            rw [hLZ] at HLC HLF HLK
            have hA1 := hA
            have hA1L := hA.out.lt
            have HO0 : Hid (OwnL Wf 3 Wf.heap.size none 0 0 (li ((LZ.take 0).map (trn K R C)))) := Lib.hid (OwnL.nilL _ _ _)
            clear hLZ hlC hA hI hSP
            go_wp2_with fail
            go_loopw [95] (fun vi wr => ∃ (t : Nat) (a3 : Option Addr) (c3 : Nat), t ≤ nC ∧ vi = .int .i64 (t : Int) ∧ Hid (ArrV VV wr (Wk.heap.size + 1) 24 [.int .i64 (R2 : Int), .int .i64 (C2 : Int), .slice a2 nS c2, .slice a3 t c3]) ∧ Hid (OwnL wr 3 Wf.heap.size a3 t c3 (li ((LZ.take t).map (trn K R C)))) ∧ Hid (IsL wr a2 nS c2 (li (LS.map (trn K R C)).reverse)) ∧ Below (Wk.heap.size + 1) Wf wr) (fun vi _ => nC - (intOf vi).toNat)
            case atStart => exact ⟨0, none, 0, by omega, rfl, hA1, HO0, HI1, Below.refl _ _⟩
            case round =>
              clear hA1 HO0 HI1 y0
              obtain ⟨t, a3, c3, ht2, rfl, hA, hO, hI, hbf⟩ := hrel
              have hszf := hbf.size
              by_cases htC : t < nC
              · have q1 : (t : Int) < (nC : Int) := by omega
                have htl : t < LZ.length := by have := HLC.out; omega
                have hvN := HLZB.out t htl
                have HTK : Hid (li ((LZ.take (t + 1)).map (trn K R C)) = li ((LZ.take t).map (trn K R C)) ++ [((trn K R C (LZ.getD t 0) : Nat) : Int)]) := Lib.hid (by
                  rw [List.take_succ_eq_append_getElem htl, List.map_append, li_app, show LZ.getD t 0 = LZ[t] by simp [List.getD, htl]]; rfl)
                obtain ⟨bs, os, rfl⟩ : ∃ b o, aC = some ⟨b, o, none⟩ := by
                  obtain ⟨b, o, h, _⟩ := HLF.out.iF.cells (by omega)
                  exact ⟨b, o, h⟩
                have HLT := Lib.hid (HLK.out.to (hbWf.trans (hbf.mono (by omega))))
                obtain ⟨bb, ob, hbb, _, hcs⟩ := HLT.out.iF.cells (by omega)
                obtain ⟨rfl, rfl⟩ : bb = bs ∧ ob = os := by simpa [eq_comm] using hbb
                have y1 := hcs t htC
                rw [li_get] at y1
                obtain ⟨v, hv⟩ : ∃ v, LZ.getD t 0 = v := ⟨_, rfl⟩
                rw [hv] at HTK hvN y1
                have o2 := val hA.out 3 rfl
                have hbo : Below (Wk.heap.size + 1) Wo wr := hbt.trans hbf
                have HC44 := Lib.hid (H44.out v wr.drew hvN hbo.drew)
                obtain ⟨tv, htv⟩ : ∃ tv, trn K R C v = tv := ⟨_, rfl⟩
                rw [htv] at HC44 HTK
                have hgl4 : Wk.heap.size + 1 < wr.heap.size := hA.out.lt
                have hgl3 : Wk.heap.size + 1 ≤ wr.drew.heap.size := by have h9 : wr.drew.heap.size = wr.heap.size := rfl
                                                                       omega
                have mixed : Tryd.prog.follows Departure.mixedOrders = true := by kernel_rfl
                have hBW : ∀ w' : World, wr.heap.size ≤ w'.heap.size → Wf.heap.size ≤ (w'.alloc (.cells #[.int .i64 (tv : Int)] 3)).heap.size := fun w' h => by simp; omega
                have HBW := Lib.hid hBW
                have ht26 : t + 1 ≤ 17592186044416 := by omega
                have hgF : Wk.heap.size + 1 < Wf.heap.size := by have := hA1L; omega
                clear hcs hbb hv htv hBW
                go_wp2_with fail
                go_region_law_o (first
                  | (refine step_app_own Tryd.underlying22 elem3 Wf.heap.size (.tmp 100) (.tmp 104) ?_ ?_ ?_ ?_ (hO5.alloc _) (isL_one _ _ _) (HBW.out _ hsG) ht26 ?_; rfl; rfl; rfl; rfl; intro a7 c7 w7 ho7 hg7 hb7 hv7; have hA7 := ((hA5.alloc (.cells #[.int .i64 (tv : Int)] 3))); have hA8 := (hb7.block _ hgF).trans hA7; have o7 := val hA8 3 rfl; have f7 := ArrV.frozen hA8 3)
                  | (go_simp; with_reducible refine HC44.out.mono ?_; rintro e w5 ⟨rfl, hG⟩; have hsG := drew_size hG; have hb5 : Below (Wk.heap.size + 1) Wf w5 := hbf.drew.trans (hG.mono hgl3); have hA5 := (hA.out.drew.below hG); have hO5 := hO.out.drew.below hG; have hI5 := hI.out.drew.below hG; have o5 := val hA5 3 rfl; have o6 := val (hA5.alloc (.cells #[.int .i64 (tv : Int)] 3)) 3 rfl))
                all_goals
                  have hsa : 0 < nS → Sep a2 a3 := fun h x y hx hy => by
                    have h1 := HI1L.out h x hx
                    have h2 := (hO.out.lt y hy).1
                    omega
                  have HA9 : Hid (ArrV VV (w7.setCell ⟨Wk.heap.size + 1, 3, none⟩ (.slice a7 (t + 1) c7)) (Wk.heap.size + 1) 24 [.int .i64 (R2 : Int), .int .i64 (C2 : Int), .slice a2 nS c2, .slice a7 (t + 1) c7]) := Lib.hid (ArrV.set hA8 3 (.slice a7 (t + 1) c7))
                  have HO9 : Hid (OwnL (w7.setCell ⟨Wk.heap.size + 1, 3, none⟩ (.slice a7 (t + 1) c7)) 3 Wf.heap.size a7 (t + 1) c7 (li ((LZ.take (t + 1)).map (trn K R C)))) := Lib.hid (by rw [HTK.out]; exact OwnL.other ho7 (p := ⟨Wk.heap.size + 1, 3, none⟩) hgF _)
                  have HI9 : Hid (IsL (w7.setCell ⟨Wk.heap.size + 1, 3, none⟩ (.slice a7 (t + 1) c7)) a2 nS c2 (li (LS.map (trn K R C)).reverse)) := Lib.hid (setC_pos (grown_pos (hI5.alloc _) hg7 hsa) hsep1.out _)
                  have hb9 : Below (Wk.heap.size + 1) Wf (w7.setCell ⟨Wk.heap.size + 1, 3, none⟩ (.slice a7 (t + 1) c7)) := ((hb5.alloc (by omega) _).trans (hb7.mono (by omega))).setCell (p := ⟨Wk.heap.size + 1, 3, none⟩) (Nat.le_refl _) _
                  clear hA hI hO hbf hbo HLT HC44 hb5 hA5 hI5 hO5 o2 o5 o6 ho7 hb7 hv7 hg7 hA7 hA8 hG hsa HBW
                  go_wp2_with fail
                  go_roundw
                  case rel => first | exact ⟨t + 1, a7, c7, by omega, by go_num, HA9, HO9, HI9, hb9⟩ | ((repeat apply Exists.intro); exact ⟨⟨t + 1, a7, c7, by omega, by go_num, HA9, HO9, HI9, hb9⟩, rfl⟩)
                  case measure => (simp [intOf] <;> omega)
              · obtain rfl : nC = t := by omega
                have HZ3 : Hid (IsL wr a3 nC c3 (li (LZ.map (trn K R C)))) := Lib.hid (by have := hO.out.isL; rwa [List.take_of_length_le (by rw [HLC.out]; exact Nat.le_refl _)] at this)
                have hbG : Below Wk.heap.size Wk wr := hbWf.trans (hbf.mono (by omega))
                have HLG := Lib.hid (HLK.out.to hbG)
                have HTK := HTU.out K hK3 (LS.map (trn K R C)).reverse (LZ.map (trn K R C)) (by rw [HLSE.out]) (by rw [HLZE.out])
                rw [HR2.out, HC2.out, HN.out] at HTK
                obtain ⟨hE0, hbl, hbg, hx1, hx2⟩ := HTK
                have HKG : Hid (ArrV VV wr Wk.heap.size 3 [.int .i64 (K : Int)]) := Lib.hid ((hbf.block _ (by omega)).trans ((hbt.block _ (by omega)).trans HKB.out))
                obtain ⟨bL, hbL⟩ : ∃ bL, daysE (R2 : Int) (C2 : Int) (li (LS.map (trn K R C)).reverse) (li (LZ.map (trn K R C))) = bL := ⟨_, rfl⟩
                rw [hbL] at hbl hbg
                have HCD := Lib.hid (Days_c hI.out HZ3.out HLG.out.tab hE0 hbL)
                have HE0 := Lib.hid hE0
                have HX1 := Lib.hid hx1
                have HX2 := Lib.hid hx2
                have HBG := Lib.hid hbg
                have HBN := Lib.hid hbl
                have o0 := val hA.out 0 rfl
                have o1 := val hA.out 1 rfl
                have o2 := val hA.out 2 rfl
                have o3 := val hA.out 3 rfl
                obtain ⟨Wg, rfl⟩ : ∃ W, W = wr := ⟨_, rfl⟩
                clear hE0 hbl hbg hx1 hx2 hbL hO hbf hbt
                go_wp2_with fail
                refine HCD.out.mono ?_
                rintro e w6 ⟨ab, nb, cb, rfl, hB, b6⟩
                have hnb := hB.len
                rw [HBN.out] at hnb
                obtain rfl : nb = nd := hnb.symm
                have hcb := hB.cap
                have hlb := hB.le
                have HB6 := Lib.hid hB
                have HA6 := Lib.hid (hA.out.below b6)
                have HCX := Lib.hid (Outline_c (hI.out.below b6) (HZ3.out.below b6) (HLG.out.to b6).tab HE0.out HX1.out HX2.out)
                have HK6 := Lib.hid (HKG.out.below b6)
                have hb6 : Below Wk.heap.size Wk w6 := hbG.trans (b6.mono hbG.size)
                clear o0 o1 o2 o3 hB hnb HCD b6 hA hI HLG hbG
                have o0 := val HA6.out 0 rfl
                have o1 := val HA6.out 1 rfl
                have o2 := val HA6.out 2 rfl
                have o3 := val HA6.out 3 rfl
                go_wp2_with fail
                refine HCX.out.mono ?_
                rintro e w8 ⟨rfl, b8⟩
                have hb8 : Below Wk.heap.size Wk w8 := hb6.trans (b8.mono hb6.size)
                have HB8 := Lib.hid (HB6.out.below b8)
                have HK8 := Lib.hid (HK6.out.below b8)
                clear o0 o1 o2 o3 HCX HA6 HB6 b8 hb6
                obtain ⟨W8, rfl⟩ : ∃ W, W = w8 := ⟨_, rfl⟩
                have hs8 := hb8.size
                have HD8 := Lib.hid (HD3.out.below (hb.trans (hb8.mono hsz)))
                have HP8 : Hid (∀ w', Below W8.heap.size W8 w' → ArrV VV w' (gS + 1) 60 (plL R C) ∧ ArrV VV w' Wk.heap.size 3 [.int .i64 (K : Int)]) := Lib.hid fun w' h => ⟨(HLK.out.to (hb8.trans (h.mono hs8))).pl, HK8.out.below h⟩
                go_wp2_with fail
                go_loopw [144] (fun vn wr => ∃ t : Nat, t ≤ nb ∧ vn = .int .i64 (t : Int) ∧ Below W8.heap.size W8 wr) (fun vn _ => nb - (intOf vn).toNat)
                case atStart => exact ⟨0, by omega, rfl, Below.refl _ _⟩
                case round =>
                  obtain ⟨t, ht, rfl, hbt⟩ := hrel
                  by_cases htl : t < nb
                  · have q1 : (t : Int) < (nb : Int) := by omega
                    have htr := HTL.out K t hK3 (by rw [HN.out]; exact htl)
                    rw [HN.out] at htr
                    have hgt := HBG.out t htl
                    obtain ⟨hp9, hk9⟩ := HP8.out wr hbt
                    have HCQ : Hid (∀ p, Calls Tryd.prog 44 #[.int .i64 (t : Int), .pointer (some ⟨gS + 1, 0, none⟩), .pointer (some ⟨Wk.heap.size, 0, none⟩)] (wr.drewN p) fun e w2 => e = .returned (.int .i64 ((trn K R C t : Nat) : Int)) ∧ ∃ m, w2 = (wr.drewN p).drewN m) := Lib.hid fun p => to_any K R C t (gS + 1) Wk.heap.size _ hK3 HSD.out (by rw [HN.out]; exact htl) (hp9.drewN p) (hk9.drewN p)
                    obtain ⟨tv, htv⟩ : ∃ tv, trn K R C t = tv := ⟨_, rfl⟩
                    rw [htv] at htr hgt HCQ
                    obtain ⟨b1, o1, rfl⟩ : ∃ b o, ad = some ⟨b, o, none⟩ := by
                      obtain ⟨b, o, h, _⟩ := HD8.out.cells (by omega)
                      exact ⟨b, o, h⟩
                    obtain ⟨b2, o2, rfl⟩ : ∃ b o, ab = some ⟨b, o, none⟩ := by
                      obtain ⟨b, o, h, _⟩ := HB8.out.cells (by omega)
                      exact ⟨b, o, h⟩
                    have x1 := at_isL2 (HD8.out.below hbt) htl
                    have x2 := at_isL2 (HB8.out.below hbt) htr
                    rw [hgt] at x2
                    have q2 : (tv : Int) < (nb : Int) := by omega
                    obtain ⟨va, hva⟩ : ∃ v, (daysL R C zk sk).getD t 0 = v := ⟨_, rfl⟩
                    rw [hva] at x1 x2
                    have e1 : (va != va) = false := by simp
                    clear hva htv hgt hp9 hk9 HP8 HBG HTU HLS HLZ HTL H44
                    go_wp2_with fail
                    go_quiet ((go_at_call 44; exact Calls.quiet_of (HCQ.out _)))
                    go_wp2
                    go_roundw
                    case rel => first | exact ⟨t + 1, by omega, by go_num, belowN hbt _⟩ | ((repeat apply Exists.intro); exact ⟨⟨t + 1, by omega, by go_num, belowN hbt _⟩, rfl⟩)
                    case measure => (simp [intOf] <;> omega)
                  · obtain rfl : nb = t := by omega
                    have hbE : Below W.heap.size W wr := hb.trans ((hb8.trans (hbt.mono hs8)).mono hsz)
                    clear hbt hb8 hb HP8 HB8 HD8
                    go_wp2_with fail
                    go_roundw
                    case rel => first | exact ⟨K + 1, by omega, by go_num, hbE⟩ | ((repeat apply Exists.intro); exact ⟨⟨K + 1, by omega, by go_num, hbE⟩, rfl⟩)
                    case measure => (simp [intOf] <;> omega)
    · obtain rfl : K = 3 := by omega
      have hsd := sd_sdB HSD.out
      obtain ⟨LE, hLE⟩ : ∃ v, ((R : Int) + (C : Int) + 1) / 2 = v := ⟨_, rfl⟩
      have HL1 := Lib.hid (fun w' => Least_c (r := (R : Int)) (c := (C : Int)) w' (v := 0) (x := LE) (by rw [if_pos hsd]; exact hLE) (by rw [if_pos hsd]))
      have HL2 := Lib.hid (fun w' => Least_c (r := (C : Int)) (c := (R : Int)) w' (v := 0) (x := LE) (by rw [if_pos (sd_sdB (sd_swap HSD.out)), Int.add_comm (C : Int) (R : Int)]; exact hLE) (by rw [if_pos (sd_sdB (sd_swap HSD.out))]))
      have eL : (LE == LE) = true := by simp
      clear hsd hLE
      go_wp2_with fail
      refine (HL1.out _).mono ?_
      rintro e w5 ⟨rfl, rfl⟩
      go_wp2_with fail
      refine (HL2.out _).mono ?_
      rintro e w5 ⟨rfl, rfl⟩
      have HWK := Lib.hid (works_any wr HLK.out.tab)
      have hk9 := HLK.out.below
      clear HL1 HL2 z0 z1
      go_wp2_with fail
      refine HWK.out.mono ?_
      rintro e w7 ⟨rfl, b7⟩
      go_wp2
      go_ret
      exact ⟨rfl, hk9.trans (b7.mono hk9.size)⟩
end Go.Proofs.YtbhjphcomppjgaaDoor
