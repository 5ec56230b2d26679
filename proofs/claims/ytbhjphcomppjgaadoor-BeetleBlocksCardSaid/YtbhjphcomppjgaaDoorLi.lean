/- Law of chapter 9: BeetleBlocks. -/
import Derived.Test.YtbhjphcomppjgaaDoorVf
import Derived.Test.YtbhjphcomppjgaaDoorVi
import Derived.Test.YtbhjphcomppjgaaDoorPv
namespace Beetle09
theorem cmp4 {r c x y r' c' x' y' C : Nat} (h1 : c < C) (h2 : c' < C) (h : r * C + c < r' * C + c') : cmpL [(r : Int), (c : Int), (x : Int), (y : Int)] [(r' : Int), (c' : Int), (x' : Int), (y' : Int)] = -1 := by
  have : r < r' ∨ (r = r' ∧ c < c') := by
    rcases (rc_le h1 h2).1 (Nat.le_of_lt h) with h3 | ⟨h3, h4⟩
    · exact .inl h3
    · right
      refine ⟨h3, ?_⟩
      rw [h3] at h; omega
  rcases this with h3 | ⟨rfl, h3⟩
  · rw [cmpL, if_pos (by omega)]
  · rw [cmpL, if_neg (by omega), if_neg (by omega), cmpL, if_pos (by omega)]
end Beetle09
namespace Go.Proofs.YtbhjphcomppjgaaDoor
open Go.RowKit Beetle09
theorem isL4 {w : World} {g o : Nat} {p q u v : Int} (hg : g < w.heap.size) (h0 : w.cell? ⟨g, o, none⟩ = some (.int .i64 p)) (h1 : w.cell? ⟨g, o + 1, none⟩ = some (.int .i64 q)) (h2 : w.cell? ⟨g, o + 2, none⟩ = some (.int .i64 u)) (h3 : w.cell? ⟨g, o + 3, none⟩ = some (.int .i64 v)) : IsL w (some ⟨g, o, none⟩) 4 4 [p, q, u, v] :=
  ⟨rfl, Nat.le_refl _, by decide, (fun h => by cases h), fun _ => ⟨g, o, rfl, hg, fun i hi => by
    rcases (by omega : i = 0 ∨ i = 1 ∨ i = 2 ∨ i = 3) with rfl | rfl | rfl | rfl
    · exact h0
    · exact h1
    · exact h2
    · exact h3⟩⟩
set_option maxHeartbeats 3400000 in
set_option maxRecDepth 100000 in
theorem BeetleBlocks_any (p q x y : Nat) (w : World) (hp : p < 256) (hq : q < 256) (hx : x < 4294967296) (hy : y < 4294967296) (hT : Tab w) : Calls Tryd.prog 14 #[floV p q x y] w fun e w' => e = .returned (.bool true) ∧ Below w.heap.size w w' := by
  have HM := Lib.hid (made5_any p q x y false (w.alloc (.cells (floL p q x y).toArray 58)) hp hq hx hy)
  have HMO := Lib.hid (mk_open (p := p) (q := q) (x := x) (y := y) (b := false) (M := 5) (by decide) (by decide))
  have HTT := Lib.hid hT
  clear hT
  go_enter Tryd.func14, Tryd.ntmps14
  go_wp2_with fail
  refine HM.out.mono ?_
  rintro e w1 ⟨aS, nS, cS, aC, nC, cC, rfl, hS, hF, hb⟩
  obtain ⟨R, hR⟩ : ∃ R, mkN p 5 = R := ⟨_, rfl⟩
  obtain ⟨C, hC⟩ : ∃ C, mkN q 5 = C := ⟨_, rfl⟩
  rw [hR, hC] at hS hF HMO
  simp only [hR, hC]
  obtain ⟨sk, hsk⟩ : ∃ sk, mkS (R * C) x = sk := ⟨_, rfl⟩
  obtain ⟨zk, hzk⟩ : ∃ zk, mkZ false (R * C) x y = zk := ⟨_, rfl⟩
  rw [hsk] at hS HMO
  rw [hzk] at hF HMO
  simp only [hsk, hzk]
  have HZK := Lib.hid hzk
  have H0 := Lib.hid HMO.out.1
  have HOP := Lib.hid HMO.out.2
  have n25 := HOP.out.sd.n25
  have hR5 := HOP.out.sd.r5
  have hC5 := HOP.out.sd.c5
  have hs25 := HOP.out.s25
  have hz25 := HOP.out.z25
  have HL0 := Lib.hid (LwS.start (R := R) (C := C) hS hF HTT.out hb)
  clear HM HMO hS hF hb HTT hR hC hsk hzk
  obtain ⟨gS, hgS⟩ : ∃ g, w1.heap.size = g := ⟨_, rfl⟩
  obtain rfl : zk = 0 := by rw [← HZK.out]; rfl
  go_wp2_with fail
  rw [hgS] at HL0
  obtain ⟨W, hW⟩ : ∃ W, ((w1.alloc (.cells #[.int .i64 (R : Int), .int .i64 (C : Int), .slice aS nS cS, .slice aC nC cC] 24)).alloc (.cells #[.int .i64 (R : Int), .int .i64 (C : Int)] 60)) = W := ⟨_, rfl⟩
  rw [hW] at HL0 ⊢
  clear hW hgS
  have hWs := HL0.out.lt
  have HSPR := Lib.hid (lspread_any R C sk 0 W HOP.out.sd HOP.out.rs.lt (Nat.two_pow_pos _))
  have HBE := Lib.hid (HOP.out.blk H0.out).1
  have HBL := Lib.hid (HOP.out.blk H0.out).2
  rw [if_pos rfl] at HBE HBL
  have HF25 := Lib.hid (lt25 (fin_lt (z := 0) HOP.out.rs.lt) n25)
  have HFC := Lib.hid (cl_fin R C 0 sk)
  have HST := Lib.hid (BkI.start (fin_lt (z := 0) HOP.out.rs.lt) (cl_fin R C 0 sk))
  have HSD := Lib.hid HOP.out.sd
  have HNR := Lib.hid (fun (r n : Nat) (w : World) (hr : r < 2 ^ 25) (hn : n < R * C) => near_any R C r n w HOP.out.sd hr hn)
  obtain ⟨s0, hs0⟩ : ∃ s, fin R C 0 sk = s := ⟨_, rfl⟩
  rw [hs0] at HSPR HBL HF25 HFC HST
  obtain ⟨A, hAA⟩ : ∃ A, blksF R C 26 s0 = A := ⟨_, rfl⟩
  rw [hAA] at HBL HST
  clear hs0 hAA
  refine HSPR.out.mono ?_
  rintro e w2 ⟨rfl, b2⟩
  have HL2 := Lib.hid (HL0.out.to b2)
  have t0 := val HL2.out.st 0 rfl
  have t1 := val HL2.out.st 1 rfl
  have t2 := val HL2.out.st 2 rfl
  have t3 := val HL2.out.st 3 rfl
  go_wp2_with fail
  refine (Blocks_c HL2.out.iS HL2.out.iF HL2.out.tab HBE.out HBL.out).mono ?_
  rintro e w3 ⟨aA, nA, cA, BA, rfl, hA3, b3⟩
  have hb3 : Below W.heap.size W w3 := b2.trans (b3.mono b2.size)
  have hnA := hA3.len
  have HNA := Lib.hid hnA
  obtain ⟨hlA, hcA⟩ := hA3.caps
  have HA3 := Lib.hid hA3
  clear t0 t1 t2 t3 HL2 b2 b3 hA3 hnA HSPR HBE HBL
  go_wp2_with fail
  go_loopw [38, 10] (fun vi vm wr => ∃ i cur met : Nat, i ≤ nA ∧ vi = .int .i64 (i : Int) ∧ vm = .int .u32 (met : Int) ∧ Hid (BkI R C s0 A i cur met ∧ met < 2 ^ 25) ∧ Hid (OwnQ wr BA aA nA cA A) ∧ Below W.heap.size W wr) (fun vi _ _ => nA - (intOf vi).toNat)
  case atStart => exact ⟨0, s0, 0, by omega, rfl, rfl, Lib.hid ⟨HST.out, by decide⟩, HA3, hb3⟩
  case round =>
    clear HA3 hb3 HST
    obtain ⟨i, cur, met, hi, rfl, rfl, hK, hA, hb⟩ := hrel
    have hT := Lib.hid (HL0.out.to hb)
    have hmet := hK.out.2
    by_cases hlt : i < nA
    · have q0 : (i : Int) < (nA : Int) := by omega
      obtain ⟨r, c, x', y', hAi, hBk, hPV, hOW, hNX⟩ := hK.out.1.step HSD.out (by rw [HNA.out]; exact hlt)
      obtain ⟨gA, rfl, _, hgA⟩ := hA.out.addr (by omega)
      obtain ⟨y0, y1, y2, y3⟩ := hA.out.cell i hlt
      rw [hAi] at y0 y1 y2 y3
      simp only [iN] at y0 y1 y2 y3
      obtain ⟨hx1, hx2⟩ := hBk.hx
      obtain ⟨hy1, hy2⟩ := hBk.hy
      have HOW := Lib.hid hOW
      have HNX := Lib.hid hNX
      have t0 := val hT.out.pl 0 rfl
      have t1 := val hT.out.pl 1 rfl
      have t2 : (1 : Nat) = 1 := rfl
      have t3 : (1 : Nat) = 1 := rfl
      have bal : Below wr.heap.size wr (wr.alloc (.cells #[.int .i64 (r : Int), .int .i64 (c : Int), .int .i64 (x' : Int), .int .i64 (y' : Int)] 55)) := (Below.refl _ _).alloc (Nat.le_refl _) _
      have hTa := hT.out.to bal
      have a0 := val hTa.pl 0 rfl
      have a1 := val hTa.pl 1 rfl
      have v0 : decide ((r : Int) < 0) = false := by simp
      have v1 : decide ((c : Int) < 0) = false := by simp
      have v2 : decide ((x' : Int) < (r : Int)) = false := by simp; omega
      have v3 : decide ((y' : Int) < (c : Int)) = false := by simp; omega
      have v4 : decide ((R : Int) ≤ (x' : Int)) = false := by simp; omega
      have v5 : decide ((C : Int) ≤ (y' : Int)) = false := by simp; omega
      have v2b : decide (x' < r) = false := decide_eq_false (by omega)
      have v3b : decide (y' < c) = false := decide_eq_false (by omega)
      have v4b : decide (R ≤ x') = false := decide_eq_false (by omega)
      have v5b : decide (C ≤ y') = false := decide_eq_false (by omega)
      by_cases hi0 : 0 < i
      · have v6 : decide ((0 : Int) < (i : Int)) = true := by simp; omega
        have v6b : decide (0 < i) = true := decide_eq_true hi0
        obtain ⟨i', hi'⟩ : ∃ i', i = i' + 1 := ⟨i - 1, by omega⟩
        obtain ⟨hPC, hPN⟩ := hPV i' hi'.symm
        have hli' : i' < nA := by omega
        obtain ⟨p0, p1, p2, p3⟩ := hA.out.cell i' hli'
        obtain ⟨r2, c2, x2', y2', hp⟩ : ∃ r c x y, A.getD i' (0, 0, 0, 0) = (r, c, x, y) := ⟨_, _, _, _, rfl⟩
        rw [hp] at p0 p1 p2 p3 hPC hPN
        simp only [iN] at p0 p1 p2 p3
        simp only [] at hPC hPN
        have k1 : (i : Int) - 1 = (i' : Int) := by omega
        have k2 : IntKind.i64.wrap (i' : Int) = (i' : Int) := IntWalk.i64_in _ (by omega)
        have k3 : (i' : Int) < (nA : Int) := by omega
        have HQ : Hid (∀ q, Calls Tryd.prog 52 #[.slice (some ⟨gA, i' * 4, none⟩) 4 4, .slice (some ⟨wr.heap.size, 0, none⟩) 4 4] ((wr.alloc (.cells #[.int .i64 (r : Int), .int .i64 (c : Int), .int .i64 (x' : Int), .int .i64 (y' : Int)] 55)).drewN q) fun e w' => e = .returned (.int .i64 (-1)) ∧ w' = (wr.alloc (.cells #[.int .i64 (r : Int), .int .i64 (c : Int), .int .i64 (x' : Int), .int .i64 (y' : Int)] 55)).drewN q) := Lib.hid fun q => by
          have hbl := belowN bal q
          have hx4 := (ArrV.new (f := VV) wr #[.int .i64 (r : Int), .int .i64 (c : Int), .int .i64 (x' : Int), .int .i64 (y' : Int)] 55 [.int .i64 (r : Int), .int .i64 (c : Int), .int .i64 (x' : Int), .int .i64 (y' : Int)] wr.heap.size rfl (by simp [VV])).drewN q
          have hI1 : IsL ((wr.alloc (.cells #[.int .i64 (r : Int), .int .i64 (c : Int), .int .i64 (x' : Int), .int .i64 (y' : Int)] 55)).drewN q) (some ⟨gA, i' * 4, none⟩) 4 4 [(r2 : Int), (c2 : Int), (x2' : Int), (y2' : Int)] := isL4 (Nat.lt_of_lt_of_le hgA hbl.size) ((hbl.cell (p := ⟨gA, i' * 4, none⟩) hgA).trans p0) ((hbl.cell (p := ⟨gA, i' * 4 + 1, none⟩) hgA).trans p1) ((hbl.cell (p := ⟨gA, i' * 4 + 2, none⟩) hgA).trans p2) ((hbl.cell (p := ⟨gA, i' * 4 + 3, none⟩) hgA).trans p3)
          have hI2 : IsL ((wr.alloc (.cells #[.int .i64 (r : Int), .int .i64 (c : Int), .int .i64 (x' : Int), .int .i64 (y' : Int)] 55)).drewN q) (some ⟨wr.heap.size, 0, none⟩) 4 4 [(r : Int), (c : Int), (x' : Int), (y' : Int)] := isL4 hx4.lt (val hx4 0 rfl) (val hx4 1 rfl) (val hx4 2 rfl) (val hx4 3 rfl)
          refine (Compare_any _ _ 4 4 4 4 _ _ _ hI1 hI2).mono ?_
          rintro e w' ⟨rfl, rfl⟩
          exact ⟨by rw [cmp4 hPC (by omega) hPN], rfl⟩
        clear hAi hBk hPV hOW hNX hi0 hK bal hTa hi' hp p0 p1 p2 p3 hPC hPN hli'
        have a2 : (1 : Nat) = 1 := rfl
        have a3 : (1 : Nat) = 1 := rfl
        go_wp2_with fail
        go_quiet ((go_at_call 52; exact Calls.quiet_of_same (HQ.out _)))
        clear HQ k1 k2 k3
        obtain ⟨Wq, hWq⟩ : ∃ W, (wr.alloc (.cells #[.int .i64 (r : Int), .int .i64 (c : Int), .int .i64 (x' : Int), .int .i64 (y' : Int)] 55)).drewN nq = W := ⟨_, rfl⟩
        have hbq : Below wr.heap.size wr Wq := by rw [← hWq]; exact belowN ((Below.refl _ _).alloc (Nat.le_refl _) _) _
        have HBX : Hid (ArrV VV Wq wr.heap.size 55 [.int .i64 (r : Int), .int .i64 (c : Int), .int .i64 (x' : Int), .int .i64 (y' : Int)]) := Lib.hid (by rw [← hWq]; exact (ArrV.new wr _ _ _ _ rfl (by simp [VV])).drewN _)
        rw [hWq]
        have hbw : Below W.heap.size W Wq := hb.trans (hbq.mono hb.size)
        have hTq := Lib.hid (HL0.out.to hbw)
        have hAq := Lib.hid (hA.out.below hbq)
        have z0 := val hTq.out.pl 0 rfl
        have z1 := val hTq.out.pl 1 rfl
        have x0 := val HBX.out 0 rfl
        have x1 := val HBX.out 1 rfl
        have x2 := val HBX.out 2 rfl
        have x3 := val HBX.out 3 rfl
        clear hWq t0 t1 t2 t3 hA hT a0 a1 a2 a3 y0 y1
        go_wp2_with fail
        go_loopw [14, 13] (fun vr vo wr => ∃ rr q : Nat, r ≤ rr ∧ rr ≤ x' + 1 ∧ vr = .int .i64 (rr : Int) ∧ vo = .int .u32 (q : Int) ∧ Hid (recQ R C r c x' y' rr c = q ∧ q < 2 ^ 25) ∧ Wq = wr) (fun vr _ _ => x' + 1 - (intOf vr).toNat)
        case atStart => exact ⟨r, 0, by omega, by omega, rfl, rfl, Lib.hid ⟨recQ_start R C r c x' y', by decide⟩, by first | trivial | rfl⟩
        case round =>
          obtain ⟨rr, q, hr1, hr2, rfl, rfl, hQ, rfl⟩ := hrel
          by_cases hlr : rr ≤ x'
          · have d1 : decide ((rr : Int) ≤ (x' : Int)) = true := by simp; omega
            have q1 : (rr : Int) ≤ (x' : Int) := by omega
            obtain ⟨M, hM⟩ : ∃ M, rr * C = M := ⟨_, rfl⟩
            have m2 : (rr : Int) * (C : Int) = (M : Int) := by rw [← hM]; simp
            have hMl : M ≤ 20 := by
              have := Nat.mul_le_mul (show rr ≤ 4 by omega) hC5
              omega
            have HM := Lib.hid hM
            clear hM
            go_wp2_with fail
            go_loopw [15, 13] (fun vc vo wr => ∃ cc q : Nat, c ≤ cc ∧ cc ≤ y' + 1 ∧ vc = .int .i64 (cc : Int) ∧ vo = .int .u32 (q : Int) ∧ Hid (recQ R C r c x' y' rr cc = q ∧ q < 2 ^ 25) ∧ Wq = wr) (fun vc _ _ => y' + 1 - (intOf vc).toNat)
            case atStart => exact ⟨c, q, by omega, by omega, rfl, rfl, hQ, by first | trivial | rfl⟩
            case round =>
              clear hQ
              obtain ⟨cc, q, hc1, hc2, rfl, rfl, hQ, rfl⟩ := hrel
              by_cases hlc : cc ≤ y'
              · have d2 : decide ((cc : Int) ≤ (y' : Int)) = true := by simp; omega
                have q2 : (cc : Int) ≤ (y' : Int) := by omega
                have hidx : M + cc < 25 := by
                  have := rc_lt (R := R) (C := C) (r := rr) (c := cc) (by omega) (by omega)
                  rw [HM.out] at this; omega
                obtain ⟨I, hI⟩ : ∃ I, M + cc = I := ⟨_, rfl⟩
                have m3 : (M : Int) + (cc : Int) = (I : Int) := by omega
                rw [hI] at hidx
                obtain ⟨V1, r1, hr1', hr125, hV11, k2, k3, k4, k5⟩ := or_facts q I hQ.out.2 hidx
                have HQ2 : Hid (recQ R C r c x' y' rr (cc + 1) = r1 ∧ r1 < 2 ^ 25) := Lib.hid ⟨by rw [← recQ_add ⟨hr1, by omega, by omega⟩ ⟨hc1, by omega, by omega⟩, hQ.out.1, HM.out, hI, hr1'], hr125⟩
                clear hI hr1' hr125 hQ
                go_wp2_with fail
                go_roundw
                case rel => first | exact ⟨cc + 1, r1, by omega, by omega, by go_num, rfl, HQ2, by first | trivial | rfl⟩ | ((repeat apply Exists.intro); exact ⟨⟨cc + 1, r1, by omega, by omega, by go_num, rfl, HQ2, by first | trivial | rfl⟩, rfl⟩)
                case measure => (simp [intOf] <;> omega)
              · obtain rfl : cc = y' + 1 := by omega
                have d2 : decide (((y' + 1 : Nat) : Int) ≤ (y' : Int)) = false := by simp; omega
                have d2b : ¬ y' + 1 ≤ y' := by omega
                have HQ2 : Hid (recQ R C r c x' y' (rr + 1) c = q ∧ q < 2 ^ 25) := Lib.hid ⟨by rw [← recQ_row]; exact hQ.out.1, hQ.out.2⟩
                clear hQ
                go_wp2_with fail
                go_roundw
                case rel => first | exact ⟨rr + 1, q, by omega, by omega, by go_num, rfl, HQ2, by first | trivial | rfl⟩ | ((repeat apply Exists.intro); exact ⟨⟨rr + 1, q, by omega, by omega, by go_num, rfl, HQ2, by first | trivial | rfl⟩, rfl⟩)
                case measure => (simp [intOf] <;> omega)
          · obtain rfl : rr = x' + 1 := by omega
            have d1 : decide (((x' + 1 : Nat) : Int) ≤ (x' : Int)) = false := by simp; omega
            have d1b : ¬ x' + 1 ≤ x' := by omega
            have HO : Hid (recS R C r c x' y' = q ∧ q < 2 ^ 25) := Lib.hid ⟨by rw [← recQ_end R C r c x' y']; exact hQ.out.1, hQ.out.2⟩
            have hq25 := hQ.out.2
            have HBI := Lib.hid (bits_any q Wq (by omega))
            have hPx := pcN_le 25 q
            have HLx := Lib.hid (els_len 25 q)
            have HMx : Hid (∀ k, k < (els 25 q).length → (els 25 q).getD k 0 < R * C ∧ met.testBit ((els 25 q).getD k 0) = false ∧ cnt R C met ((els 25 q).getD k 0) = 0) := Lib.hid fun k hk => by
              have : (els 25 q).getD k 0 ∈ els 25 q := by rw [List.getD, List.getElem?_eq_getElem hk]; exact List.getElem_mem hk
              have h2 := (mem_els.1 this).2
              rw [← HO.out.1] at h2
              rw [HO.out.1] at h2
              exact HOW.out _ (by rw [HO.out.1]; exact h2)
            obtain ⟨L, hL⟩ : ∃ L, els 25 q = L := ⟨_, rfl⟩
            obtain ⟨P, hPe⟩ : ∃ P, pcN 25 q = P := ⟨_, rfl⟩
            rw [hL, hPe] at HLx HBI
            rw [hL] at HMx
            rw [hPe] at hPx
            obtain ⟨m9, hm9⟩ : ∃ m, met ||| q = m := ⟨_, rfl⟩
            have f9 : bits .or .u32 (met : Int) (q : Int) = (m9 : Int) := by rw [u32_or_nat met q (by omega) (by omega), hm9]
            have HN9 : Hid (BkI R C s0 A (i + 1) (cutS R C cur r c x' y') m9 ∧ m9 < 2 ^ 25) := Lib.hid ⟨by rw [← hm9, ← HO.out.1]; exact HNX.out, by rw [← hm9]; exact Nat.or_lt_two_pow hmet hq25⟩
            clear hL hPe hm9 hQ HO HNX HOW
            go_wp2_with fail
            refine HBI.out.mono ?_
            rintro e w6 ⟨aB, cB, rfl, hB, b6⟩
            have hb6 : Below W.heap.size W w6 := hbw.trans (b6.mono hbw.size)
            have HB6 := Lib.hid hB.isL
            have hcB := hB.isL.cap
            have hlB := hB.isL.le
            have HA6 := Lib.hid (hAq.out.below b6)
            clear hB HBI b6 hAq hTq z0 z1 x0 x1 x2 x3 HBX
            go_wp2_with fail
            go_loopw [121] (fun vk wr => ∃ k : Nat, k ≤ P ∧ vk = .int .i64 (k : Int) ∧ Hid (IsL wr aB P cB (li L)) ∧ Hid (OwnQ wr BA (some ⟨gA, 0, none⟩) nA cA A) ∧ Below W.heap.size W wr) (fun vk _ => P - (intOf vk).toNat)
            case atStart => exact ⟨0, by omega, rfl, HB6, HA6, hb6⟩
            case round =>
              clear HB6 HA6 hb6
              obtain ⟨k, hk, rfl, hLI, hA7, hb7⟩ := hrel
              have hT7 := Lib.hid (HL0.out.to hb7)
              by_cases hkP : k < P
              · have q3 : (k : Int) < (P : Int) := by omega
                obtain ⟨bb, oo, rfl, _, hcc⟩ := hLI.out.cells (by omega)
                have y9 := hcc k hkP
                rw [li_get] at y9
                obtain ⟨hvN, hvm, hvc⟩ := HMx.out k (by rw [HLx.out]; exact hkP)
                obtain ⟨v, hv⟩ : ∃ v, L.getD k 0 = v := ⟨_, rfl⟩
                rw [hv] at y9 hvN hvm hvc
                have hv25 : v < 25 := by omega
                obtain ⟨V2, dd, hV2, g1, g2, g3⟩ := bit01_facts met v (by omega) hv25 false hvm
                have g4 : bits .and .u32 (dd : Int) 1 = 0 := g3
                have HC := Lib.hid (HNR.out met v)
                rw [hvc] at HC
                have z0 := val hT7.out.pl 0 rfl
                have z1 := val hT7.out.pl 1 rfl
                clear hcc hv g3 hvm hvc
                go_wp2_with fail
                refine (HC.out _ hmet hvN).mono ?_
                rintro e w8 ⟨rfl, b8⟩
                have hLI8 := Lib.hid (hLI.out.below b8)
                have hA8 := Lib.hid (hA7.out.below b8)
                have hb8 : Below W.heap.size W w8 := hb7.trans (b8.mono hb7.size)
                clear hLI hA7 hb7 hT7 b8 z0 z1 HC
                go_wp2_with fail
                go_roundw
                case rel => first | exact ⟨k + 1, by omega, by go_num, hLI8, hA8, hb8⟩ | ((repeat apply Exists.intro); exact ⟨⟨k + 1, by omega, by go_num, hLI8, hA8, hb8⟩, rfl⟩)
                case measure => (simp [intOf] <;> omega)
              · obtain rfl : k = P := by omega
                go_wp2_with fail
                go_roundw
                case rel => first | exact ⟨i + 1, cutS R C cur r c x' y', m9, by omega, by go_num, rfl, HN9, hA7, hb7⟩ | ((repeat apply Exists.intro); exact ⟨⟨i + 1, cutS R C cur r c x' y', m9, by omega, by go_num, rfl, HN9, hA7, hb7⟩, rfl⟩)
                case measure => (simp [intOf] <;> omega)
      · obtain rfl : i = 0 := by omega
        have v6 : decide ((0 : Int) < ((0 : Nat) : Int)) = false := by simp
        clear hAi hBk hPV hOW hNX hi0 hK bal hTa
        have a2 : (1 : Nat) = 1 := rfl
        have a3 : (1 : Nat) = 1 := rfl
        go_wp2_with fail
        go_quiet (fail)
        obtain ⟨Wq, hWq⟩ : ∃ W, (wr.alloc (.cells #[.int .i64 (r : Int), .int .i64 (c : Int), .int .i64 (x' : Int), .int .i64 (y' : Int)] 55)).drewN nq = W := ⟨_, rfl⟩
        have hbq : Below wr.heap.size wr Wq := by rw [← hWq]; exact belowN ((Below.refl _ _).alloc (Nat.le_refl _) _) _
        have HBX : Hid (ArrV VV Wq wr.heap.size 55 [.int .i64 (r : Int), .int .i64 (c : Int), .int .i64 (x' : Int), .int .i64 (y' : Int)]) := Lib.hid (by rw [← hWq]; exact (ArrV.new wr _ _ _ _ rfl (by simp [VV])).drewN _)
        rw [hWq]
        have hbw : Below W.heap.size W Wq := hb.trans (hbq.mono hb.size)
        have hTq := Lib.hid (HL0.out.to hbw)
        have hAq := Lib.hid (hA.out.below hbq)
        have z0 := val hTq.out.pl 0 rfl
        have z1 := val hTq.out.pl 1 rfl
        have x0 := val HBX.out 0 rfl
        have x1 := val HBX.out 1 rfl
        have x2 := val HBX.out 2 rfl
        have x3 := val HBX.out 3 rfl
        clear hWq t0 t1 t2 t3 hA hT a0 a1 a2 a3 y0 y1
        go_wp2_with fail
        go_loopw [14, 13] (fun vr vo wr => ∃ rr q : Nat, r ≤ rr ∧ rr ≤ x' + 1 ∧ vr = .int .i64 (rr : Int) ∧ vo = .int .u32 (q : Int) ∧ Hid (recQ R C r c x' y' rr c = q ∧ q < 2 ^ 25) ∧ Wq = wr) (fun vr _ _ => x' + 1 - (intOf vr).toNat)
        case atStart => exact ⟨r, 0, by omega, by omega, rfl, rfl, Lib.hid ⟨recQ_start R C r c x' y', by decide⟩, by first | trivial | rfl⟩
        case round =>
          obtain ⟨rr, q, hr1, hr2, rfl, rfl, hQ, rfl⟩ := hrel
          by_cases hlr : rr ≤ x'
          · have d1 : decide ((rr : Int) ≤ (x' : Int)) = true := by simp; omega
            have q1 : (rr : Int) ≤ (x' : Int) := by omega
            obtain ⟨M, hM⟩ : ∃ M, rr * C = M := ⟨_, rfl⟩
            have m2 : (rr : Int) * (C : Int) = (M : Int) := by rw [← hM]; simp
            have hMl : M ≤ 20 := by
              have := Nat.mul_le_mul (show rr ≤ 4 by omega) hC5
              omega
            have HM := Lib.hid hM
            clear hM
            go_wp2_with fail
            go_loopw [15, 13] (fun vc vo wr => ∃ cc q : Nat, c ≤ cc ∧ cc ≤ y' + 1 ∧ vc = .int .i64 (cc : Int) ∧ vo = .int .u32 (q : Int) ∧ Hid (recQ R C r c x' y' rr cc = q ∧ q < 2 ^ 25) ∧ Wq = wr) (fun vc _ _ => y' + 1 - (intOf vc).toNat)
            case atStart => exact ⟨c, q, by omega, by omega, rfl, rfl, hQ, by first | trivial | rfl⟩
            case round =>
              clear hQ
              obtain ⟨cc, q, hc1, hc2, rfl, rfl, hQ, rfl⟩ := hrel
              by_cases hlc : cc ≤ y'
              · have d2 : decide ((cc : Int) ≤ (y' : Int)) = true := by simp; omega
                have q2 : (cc : Int) ≤ (y' : Int) := by omega
                have hidx : M + cc < 25 := by
                  have := rc_lt (R := R) (C := C) (r := rr) (c := cc) (by omega) (by omega)
                  rw [HM.out] at this; omega
                obtain ⟨I, hI⟩ : ∃ I, M + cc = I := ⟨_, rfl⟩
                have m3 : (M : Int) + (cc : Int) = (I : Int) := by omega
                rw [hI] at hidx
                obtain ⟨V1, r1, hr1', hr125, hV11, k2, k3, k4, k5⟩ := or_facts q I hQ.out.2 hidx
                have HQ2 : Hid (recQ R C r c x' y' rr (cc + 1) = r1 ∧ r1 < 2 ^ 25) := Lib.hid ⟨by rw [← recQ_add ⟨hr1, by omega, by omega⟩ ⟨hc1, by omega, by omega⟩, hQ.out.1, HM.out, hI, hr1'], hr125⟩
                clear hI hr1' hr125 hQ
                go_wp2_with fail
                go_roundw
                case rel => first | exact ⟨cc + 1, r1, by omega, by omega, by go_num, rfl, HQ2, by first | trivial | rfl⟩ | ((repeat apply Exists.intro); exact ⟨⟨cc + 1, r1, by omega, by omega, by go_num, rfl, HQ2, by first | trivial | rfl⟩, rfl⟩)
                case measure => (simp [intOf] <;> omega)
              · obtain rfl : cc = y' + 1 := by omega
                have d2 : decide (((y' + 1 : Nat) : Int) ≤ (y' : Int)) = false := by simp; omega
                have d2b : ¬ y' + 1 ≤ y' := by omega
                have HQ2 : Hid (recQ R C r c x' y' (rr + 1) c = q ∧ q < 2 ^ 25) := Lib.hid ⟨by rw [← recQ_row]; exact hQ.out.1, hQ.out.2⟩
                clear hQ
                go_wp2_with fail
                go_roundw
                case rel => first | exact ⟨rr + 1, q, by omega, by omega, by go_num, rfl, HQ2, by first | trivial | rfl⟩ | ((repeat apply Exists.intro); exact ⟨⟨rr + 1, q, by omega, by omega, by go_num, rfl, HQ2, by first | trivial | rfl⟩, rfl⟩)
                case measure => (simp [intOf] <;> omega)
          · obtain rfl : rr = x' + 1 := by omega
            have d1 : decide (((x' + 1 : Nat) : Int) ≤ (x' : Int)) = false := by simp; omega
            have d1b : ¬ x' + 1 ≤ x' := by omega
            have HO : Hid (recS R C r c x' y' = q ∧ q < 2 ^ 25) := Lib.hid ⟨by rw [← recQ_end R C r c x' y']; exact hQ.out.1, hQ.out.2⟩
            have hq25 := hQ.out.2
            have HBI := Lib.hid (bits_any q Wq (by omega))
            have hPx := pcN_le 25 q
            have HLx := Lib.hid (els_len 25 q)
            have HMx : Hid (∀ k, k < (els 25 q).length → (els 25 q).getD k 0 < R * C ∧ met.testBit ((els 25 q).getD k 0) = false ∧ cnt R C met ((els 25 q).getD k 0) = 0) := Lib.hid fun k hk => by
              have : (els 25 q).getD k 0 ∈ els 25 q := by rw [List.getD, List.getElem?_eq_getElem hk]; exact List.getElem_mem hk
              have h2 := (mem_els.1 this).2
              rw [← HO.out.1] at h2
              rw [HO.out.1] at h2
              exact HOW.out _ (by rw [HO.out.1]; exact h2)
            obtain ⟨L, hL⟩ : ∃ L, els 25 q = L := ⟨_, rfl⟩
            obtain ⟨P, hPe⟩ : ∃ P, pcN 25 q = P := ⟨_, rfl⟩
            rw [hL, hPe] at HLx HBI
            rw [hL] at HMx
            rw [hPe] at hPx
            obtain ⟨m9, hm9⟩ : ∃ m, met ||| q = m := ⟨_, rfl⟩
            have f9 : bits .or .u32 (met : Int) (q : Int) = (m9 : Int) := by rw [u32_or_nat met q (by omega) (by omega), hm9]
            have HN9 : Hid (BkI R C s0 A (0 + 1) (cutS R C cur r c x' y') m9 ∧ m9 < 2 ^ 25) := Lib.hid ⟨by rw [← hm9, ← HO.out.1]; exact HNX.out, by rw [← hm9]; exact Nat.or_lt_two_pow hmet hq25⟩
            clear hL hPe hm9 hQ HO HNX HOW
            go_wp2_with fail
            refine HBI.out.mono ?_
            rintro e w6 ⟨aB, cB, rfl, hB, b6⟩
            have hb6 : Below W.heap.size W w6 := hbw.trans (b6.mono hbw.size)
            have HB6 := Lib.hid hB.isL
            have hcB := hB.isL.cap
            have hlB := hB.isL.le
            have HA6 := Lib.hid (hAq.out.below b6)
            clear hB HBI b6 hAq hTq z0 z1 x0 x1 x2 x3 HBX
            go_wp2_with fail
            go_loopw [121] (fun vk wr => ∃ k : Nat, k ≤ P ∧ vk = .int .i64 (k : Int) ∧ Hid (IsL wr aB P cB (li L)) ∧ Hid (OwnQ wr BA (some ⟨gA, 0, none⟩) nA cA A) ∧ Below W.heap.size W wr) (fun vk _ => P - (intOf vk).toNat)
            case atStart => exact ⟨0, by omega, rfl, HB6, HA6, hb6⟩
            case round =>
              clear HB6 HA6 hb6
              obtain ⟨k, hk, rfl, hLI, hA7, hb7⟩ := hrel
              have hT7 := Lib.hid (HL0.out.to hb7)
              by_cases hkP : k < P
              · have q3 : (k : Int) < (P : Int) := by omega
                obtain ⟨bb, oo, rfl, _, hcc⟩ := hLI.out.cells (by omega)
                have y9 := hcc k hkP
                rw [li_get] at y9
                obtain ⟨hvN, hvm, hvc⟩ := HMx.out k (by rw [HLx.out]; exact hkP)
                obtain ⟨v, hv⟩ : ∃ v, L.getD k 0 = v := ⟨_, rfl⟩
                rw [hv] at y9 hvN hvm hvc
                have hv25 : v < 25 := by omega
                obtain ⟨V2, dd, hV2, g1, g2, g3⟩ := bit01_facts met v (by omega) hv25 false hvm
                have g4 : bits .and .u32 (dd : Int) 1 = 0 := g3
                have HC := Lib.hid (HNR.out met v)
                rw [hvc] at HC
                have z0 := val hT7.out.pl 0 rfl
                have z1 := val hT7.out.pl 1 rfl
                clear hcc hv g3 hvm hvc
                go_wp2_with fail
                refine (HC.out _ hmet hvN).mono ?_
                rintro e w8 ⟨rfl, b8⟩
                have hLI8 := Lib.hid (hLI.out.below b8)
                have hA8 := Lib.hid (hA7.out.below b8)
                have hb8 : Below W.heap.size W w8 := hb7.trans (b8.mono hb7.size)
                clear hLI hA7 hb7 hT7 b8 z0 z1 HC
                go_wp2_with fail
                go_roundw
                case rel => first | exact ⟨k + 1, by omega, by go_num, hLI8, hA8, hb8⟩ | ((repeat apply Exists.intro); exact ⟨⟨k + 1, by omega, by go_num, hLI8, hA8, hb8⟩, rfl⟩)
                case measure => (simp [intOf] <;> omega)
              · obtain rfl : k = P := by omega
                go_wp2_with fail
                go_roundw
                case rel => first | exact ⟨0 + 1, cutS R C cur r c x' y', m9, by omega, by go_num, rfl, HN9, hA7, hb7⟩ | ((repeat apply Exists.intro); exact ⟨⟨0 + 1, cutS R C cur r c x' y', m9, by omega, by go_num, rfl, HN9, hA7, hb7⟩, rfl⟩)
                case measure => (simp [intOf] <;> omega)
    · obtain rfl : i = nA := by omega
      obtain rfl : cur = 0 := hK.out.1.done (by rw [HNA.out]; exact Nat.le_refl _)
      have HME : Hid (met = s0) := Lib.hid (Nat.eq_of_testBit_eq fun n => by rw [hK.out.1.mt, Nat.zero_testBit]; simp)
      have HCL : Hid (∀ n, n < R * C → met.testBit n = false → cnt R C met n ≤ 1) := Lib.hid fun n hn h => by
        have := HFC.out n hn
        rw [HME.out] at h ⊢
        by_cases h2 : 2 ≤ cnt R C s0 n
        · rw [gets_of h (Nat.zero_testBit n) h2] at this; cases this
        · omega
      obtain ⟨N, hN⟩ : ∃ N, R * C = N := ⟨_, rfl⟩
      have m1 : (R : Int) * (C : Int) = (N : Int) := by rw [← hN]; simp
      rw [hN] at HCL HNR
      have n25' : N ≤ 25 := by rw [← hN]; exact n25
      have z0 := val hT.out.pl 0 rfl
      have z1 := val hT.out.pl 1 rfl
      clear hN hK
      obtain ⟨We, rfl⟩ : ∃ W, W = wr := ⟨_, rfl⟩
      go_wp2_with fail
      go_loopw [147] (fun vn wr => ∃ n : Nat, n ≤ N ∧ vn = .int .i64 (n : Int) ∧ Below W.heap.size W wr) (fun vn _ => N - (intOf vn).toNat)
      case atStart => exact ⟨0, by omega, rfl, hb⟩
      case round =>
        clear z0 z1
        obtain ⟨n, hn, rfl, hb9⟩ := hrel
        have hT9 := Lib.hid (HL0.out.to hb9)
        by_cases hln : n < N
        · have q5 : (n : Int) < (N : Int) := by omega
          have hn25 : n < 25 := by omega
          have z0 := val hT9.out.pl 0 rfl
          have z1 := val hT9.out.pl 1 rfl
          have HCn := HCL.out n hln
          obtain ⟨B1, hB1⟩ : ∃ B, met.testBit n = B := ⟨_, rfl⟩
          rw [hB1] at HCn
          obtain ⟨V2, dd, hV2, g1, g2, g3⟩ := bit01_facts met n (by omega) hn25 B1 hB1
          clear hB1
          cases B1 with
          | true =>
            have g4 : bits .and .u32 (dd : Int) 1 = 1 := g3
            clear g3 HCn
            go_wp2_with fail
            go_roundw
            case rel => first | exact ⟨n + 1, by omega, by go_num, hb9⟩ | ((repeat apply Exists.intro); exact ⟨⟨n + 1, by omega, by go_num, hb9⟩, rfl⟩)
            case measure => (simp [intOf] <;> omega)
          | false =>
            have g4 : bits .and .u32 (dd : Int) 1 = 0 := g3
            have HC := Lib.hid (HNR.out met n)
            have hc1 := HCn rfl
            obtain ⟨k, hk⟩ : ∃ k, cnt R C met n = k := ⟨_, rfl⟩
            rw [hk] at HC hc1
            have e1 : decide ((1 : Int) < (k : Int)) = false := by simp; omega
            have e2 : ¬ 1 < k := by omega
            clear g3 HCn hk
            go_wp2_with fail
            refine (HC.out _ hmet hln).mono ?_
            rintro e w8 ⟨rfl, b8⟩
            have hb8 : Below W.heap.size W w8 := hb9.trans (b8.mono hb9.size)
            clear z0 z1 hT9 b8 HC
            go_wp2_with fail
            go_roundw
            case rel => first | exact ⟨n + 1, by omega, by go_num, hb8⟩ | ((repeat apply Exists.intro); exact ⟨⟨n + 1, by omega, by go_num, hb8⟩, rfl⟩)
            case measure => (simp [intOf] <;> omega)
        · obtain rfl : n = N := by omega
          obtain rfl : met = s0 := HME.out
          have e1 : ((met : Int) == (met : Int)) = true := by simp
          go_wp2_with fail
          refine (works_any _ hT9.out.tab).mono ?_
          rintro e w7 ⟨rfl, b7⟩
          have hk := (hT9.out.to b7).below
          go_wp2
          go_ret
          exact ⟨rfl, hk⟩
end Go.Proofs.YtbhjphcomppjgaaDoor
