/- Walks of chapter 9: bales that are safe by themselves; Least. -/
import Derived.Test.YtbhjphcomppjgaaDoorWk
import Derived.Test.YtbhjphcomppjgaaDoorPk
import Derived.BigQuiet
namespace Go.Proofs.YtbhjphcomppjgaaDoor
open Go.RowKit Beetle09
variable {r c : Int} {S F Z : List Int} {a b : Option Addr} {n m k j : Nat} {w : World}

/-- What the number of neighbours that are neither of a set nor frozen costs. -/
theorem near2_facts {R C n : Nat} (hs : Sd R C) (hn : n < R * C) (q z : Nat) (hq : q < 4294967296) (hz : z < 4294967296) : ∃ k p y c : Nat, (nearN C (R * C)).getD n 0 = k ∧ bits .andNot .u32 (k : Int) (q : Int) = (p : Int) ∧ bits .andNot .u32 (p : Int) (z : Int) = (y : Int) ∧ c = cnt R C (co R C q z) n ∧ c ≤ 4 ∧
    ∀ w, Calls Tryd.prog 61 #[.int .u32 (y : Int)] w fun e w' => e = .returned (.int .i64 (c : Int)) ∧ ∃ m, w' = w.drewN m := by
  have hk : nbS R C n < 4294967296 := Nat.lt_of_lt_of_le (lt25 (nbS_lt hs hn) hs.n25) (by decide)
  have hp : nbS R C n &&& (4294967295 - q) < 4294967296 := Nat.lt_of_le_of_lt Nat.and_le_left hk
  have hy : (nbS R C n &&& (4294967295 - q)) &&& (4294967295 - z) < 4294967296 := Nat.lt_of_le_of_lt Nat.and_le_left hp
  refine ⟨nbS R C n, _, _, cnt R C (co R C q z) n, near_at hs hn, u32_andNot_nat _ _ hk hq, u32_andNot_nat _ _ hp hz, rfl, cnt_le4 _ _ _ _, fun w => ?_⟩
  have := size_any _ w hy
  rwa [co_cnt hs hn hq hz] at this
set_option maxHeartbeats 8000000 in
set_option maxRecDepth 100000 in
theorem Proves_any (x : Option Addr) (nx cx : Nat) (hZI0 : IsL w x nx cx Z) (hS : IsL w a n k S) (hF : IsL w b m j F) (hT : Tab w) : Calls Tryd.prog 24 #[stV r c a b n k m j, .slice x nx cx] w (EP (provE r c S F Z) w) := by
  have hal : Below w.heap.size w (w.alloc (.cells #[.int .i64 r, .int .i64 c, .slice a n k, .slice b m j] 24)) := (Below.refl _ _).alloc (Nat.le_refl _) _
  have HZI := Lib.hid hZI0
  clear hZI0
  have HC := Lib.hid (opened_any r c S F a b n m k j _ (hS.below hal) (hF.below hal))
  have HT0 := Lib.hid (hT.to hal)
  obtain ⟨E, hE⟩ : ∃ E, openE r c S F = E := ⟨_, rfl⟩
  have HE := Lib.hid hE
  clear hE hS hF hT
  go_enter Tryd.func24, Tryd.ntmps24
  go_wp2_with fail
  refine HC.out.mono ?_
  rintro e w1 ⟨b1, hor⟩
  have HT1 := Lib.hid (HT0.out.to b1)
  have k1 := hal.trans (b1.mono hal.size)
  have hs1 := hal.size
  have hb2 := b1.size
  rcases hor with ⟨h0, rfl⟩ | ⟨R, C, s, z, g, h0, hop, hg, hfl, rfl⟩
  · clear HC b1
    have t1 : (E != 0) = true := by rw [← HE.out]; simpa using h0
    have H0 := Lib.hid h0
    clear h0
    rw [HE.out]
    go_wp2_with fail
    go_ret
    exact ⟨ret_i (by rw [bad_prov H0.out, HE.out]), k1.alloc (by omega) _⟩
  · clear HC b1
    obtain rfl : E = 0 := HE.out.symm.trans h0
    have H0 := Lib.hid h0
    have HOP := Lib.hid hop
    have hs25 := hop.s25
    have hz25 := hop.z25
    have kb := k1.alloc (by omega) (.cells #[.int .u32 (s : Int), .int .u32 (z : Int)] 79)
    have bal : Below w1.heap.size w1 (w1.alloc (.cells #[.int .u32 (s : Int), .int .u32 (z : Int)] 79)) := (Below.refl _ _).alloc (Nat.le_refl _) _
    have HTA := Lib.hid (HT1.out.to bal)
    have HFA : Hid (Flr (w1.alloc (.cells #[.int .u32 (s : Int), .int .u32 (z : Int)] 79)) g R C (nearN C (R * C))) := Lib.hid (ArrV.alloc hfl _)
    clear h0 hfl hop bal
    obtain ⟨wb, hwb⟩ : ∃ wb, wb = w1.alloc (.cells #[.int .u32 (s : Int), .int .u32 (z : Int)] 79) := ⟨_, rfl⟩
    have HST := Lib.hid (ArrV.new (f := VV) w1 #[.int .u32 (s : Int), .int .u32 (z : Int)] 79 [.int .u32 (s : Int), .int .u32 (z : Int)] _ rfl rfl)
    rw [← hwb] at HTA HFA kb HST
    have c0 := val HST.out 0 rfl
    have c1 := val HST.out 1 rfl
    have xb := Flr.bales HFA.out
    have HR := Lib.hid (HOP.out.prov H0.out Z)
    have hn25 := HOP.out.sd.n25
    have hs32 : s < 4294967296 := Nat.lt_of_lt_of_le hs25 (by decide)
    have hz32 : z < 4294967296 := Nat.lt_of_lt_of_le hz25 (by decide)
    have HZ2 := Lib.hid (HZI.out.below kb)
    have HZL := Lib.hid HZI.out.len
    have hzcap := HZI.out.cap
    have hzle := HZI.out.le
    obtain ⟨N, hN⟩ : ∃ N, R * C = N := ⟨_, rfl⟩
    have HN := Lib.hid hN
    rw [hN] at xb HR hn25
    clear hN HT0 HT1
    go_wp2_with fail
    rw [← hwb]
    clear hwb
    go_loopw [25, 8, 9] (fun vi vs vl wr => ∃ (i q : Nat) (t : Int), i ≤ nx ∧ vi = .int .i64 (i : Int) ∧ vs = .int .u32 (q : Int) ∧ vl = .int .i64 t ∧ Hid (scanE N Z (-1) 0 = scanE N (Z.drop i) t q) ∧ Hid (q < 2 ^ N) ∧ wb = wr) (fun vi _ _ _ => nx - (intOf vi).toNat)
    case atStart => exact ⟨0, 0, -1, by omega, rfl, rfl, rfl, Lib.hid (by rw [List.drop_zero]), Lib.hid (Nat.two_pow_pos N), rfl⟩
    case round =>
      obtain ⟨i, q, t, hi, rfl, rfl, rfl, hE, hQ, rfl⟩ := hrel
      by_cases hlt : i < nx
      · have q0 : (i : Int) < (nx : Int) := by omega
        obtain ⟨bb, oo, rfl, _, hc⟩ := HZ2.out.cells (by omega)
        have y1 := hc i hlt
        have HD := Lib.hid (drop_cons Z i (by rw [HZL.out]; exact hlt))
        obtain ⟨x, hx⟩ : ∃ x, Z.getD i 0 = x := ⟨_, rfl⟩
        rw [hx] at y1 HD
        clear hc hx
        by_cases hx0 : x < 0
        · have HFIN : Hid (provE r c S F Z = 2) := Lib.hid (by rw [HR.out, hE.out, HD.out, scanE_bad (Or.inl hx0), if_neg (by simp)])
          go_wp2_with fail
          go_ret
          exact ⟨ret_i HFIN.out.symm, kb⟩
        · obtain ⟨v, rfl⟩ : ∃ v : Nat, x = (v : Int) := ⟨x.toNat, by omega⟩
          have hv0 : decide ((v : Int) < 0) = false := by simp
          by_cases hxN : N ≤ v
          · have HFIN : Hid (provE r c S F Z = 2) := Lib.hid (by rw [HR.out, hE.out, HD.out, scanE_bad (Or.inr (by omega)), if_neg (by simp)])
            have d1 : decide ((N : Int) ≤ (v : Int)) = true := by simp; omega
            have d2 : decide (N ≤ v) = true := by simp; omega
            go_wp2_with fail
            go_ret
            exact ⟨ret_i HFIN.out.symm, kb⟩
          · have hvN : v < N := by omega
            have d1 : decide ((N : Int) ≤ (v : Int)) = false := by simp; omega
            have d2 : decide (N ≤ v) = false := by simp; omega
            by_cases hvt : (v : Int) ≤ t
            · have HFIN : Hid (provE r c S F Z = 7) := Lib.hid (by rw [HR.out, hE.out, HD.out, scanE_ord hvN hvt, if_neg (by simp)])
              go_wp2_with fail
              go_ret
              exact ⟨ret_i HFIN.out.symm, kb⟩
            · have d3 : decide ((v : Int) ≤ t) = false := by simpa using hvt
              obtain ⟨V, r2, hr2, hr25, hV1, f2, f3, f4, f5⟩ := or_facts q v (lt25 hQ.out hn25) (by omega)
              have HE2 : Hid (scanE N Z (-1) 0 = scanE N (Z.drop (i + 1)) (v : Int) r2) := Lib.hid (by rw [hE.out, HD.out, scanE_ok hvN hvt, hr2])
              have HQ2 : Hid (r2 < 2 ^ N) := Lib.hid (by rw [hr2]; exact ins_lt hQ.out hvN)
              clear hr2 hr25 hvt
              go_wp2_with fail
              go_roundw
              case rel => first | exact ⟨i + 1, r2, (v : Int), by omega, by go_num, rfl, rfl, HE2, HQ2, by first | trivial | rfl⟩ | ((repeat apply Exists.intro); exact ⟨⟨i + 1, r2, (v : Int), by omega, by go_num, rfl, rfl, HE2, HQ2, by first | trivial | rfl⟩, rfl⟩)
              case measure => (simp [intOf] <;> omega)
      · obtain rfl : nx = i := by omega
        have HSC : Hid (scanE N Z (-1) 0 = (0, q)) := Lib.hid (by rw [hE.out, List.drop_of_length_le (by rw [HZL.out]; exact Nat.le_refl _)]; rfl)
        have hq25 := lt25 hQ.out hn25
        have hq32 : q < 4294967296 := Nat.lt_of_lt_of_le hq25 (by decide)
        obtain ⟨u, hu⟩ : ∃ u, q &&& s = u := ⟨_, rfl⟩
        have f1 : bits .and .u32 (q : Int) (s : Int) = (u : Int) := by rw [u32_and_nat q s hq32 hs32, hu]
        by_cases hu0 : u = 0
        · subst hu0
          have f0 : (((0 : Nat) : Int) != 0) = false := by decide
          obtain ⟨d, hd⟩ : ∃ d, q &&& (4294967295 - z) = d := ⟨_, rfl⟩
          have f2 : bits .andNot .u32 (q : Int) (z : Int) = (d : Int) := by rw [u32_andNot_nat q z hq32 hz32, hd]
          have hd25 : d < 2 ^ 25 := by rw [← hd]; exact Nat.lt_of_le_of_lt Nat.and_le_left hq25
          have HDB : Hid (∀ i, i < (els 25 d).length → (els 25 d).getD i 0 < N ∧ q.testBit ((els 25 d).getD i 0) = true ∧ z.testBit ((els 25 d).getD i 0) = false) := Lib.hid fun i hi => by
            have hm : (els 25 d).getD i 0 ∈ els 25 d := by rw [List.getD, List.getElem?_eq_getElem hi]; exact List.getElem_mem hi
            have h2 := (mem_els.1 hm).2
            rw [← hd, dif_bit hq25 hz32, hd] at h2
            rw [Bool.and_eq_true, Bool.not_eq_true'] at h2
            exact ⟨bit_lt hQ.out h2.1, h2.1, h2.2⟩
          have HYES : Hid ((∀ i, i < (els 25 d).length → cnt R C (co R C q z) ((els 25 d).getD i 0) ≤ 1) → okB R C s z q = true) := Lib.hid fun h => okB_yes (by rw [HN.out]; exact hQ.out) (by rw [HN.out]; exact hn25) hz32 hu (by rw [hd]; exact h)
          have HNO : Hid (∀ i, i < (els 25 d).length → ¬ cnt R C (co R C q z) ((els 25 d).getD i 0) ≤ 1 → okB R C s z q = false) := Lib.hid fun i hi h => okB_near (by rw [HN.out]; exact (HDB.out i hi).1) (HDB.out i hi).2.1 (HDB.out i hi).2.2 h
          have HLL := Lib.hid (els_len 25 d)
          have hp25 := pcN_le 25 d
          have HC60 := Lib.hid (list_of d wb HTA.out hd25)
          obtain ⟨P, hP⟩ : ∃ P, pcN 25 d = P := ⟨_, rfl⟩
          obtain ⟨L, hL⟩ : ∃ L, els 25 d = L := ⟨_, rfl⟩
          rw [hL] at HC60 HLL HDB HYES HNO
          rw [hP] at HC60 HLL hp25
          clear hu hd hd25 hP hL hlt
          go_wp2_with fail
          refine HC60.out.mono ?_
          rintro e w2 ⟨aL, cL, rfl, hOL, b2⟩
          have hcap := hOL.isL.cap
          have hle := hOL.isL.le
          have HOL := Lib.hid hOL.isL
          have c0 := (b2.cell (p := ⟨w1.heap.size, 0, none⟩) HST.out.lt).trans c0
          have c1 := (b2.cell (p := ⟨w1.heap.size, 1, none⟩) HST.out.lt).trans c1
          have hkb := kb.size
          clear hOL HC60
          go_wp2_with fail
          go_loopw [61] (fun vi wr => ∃ i : Nat, i ≤ P ∧ vi = .int .i64 (i : Int) ∧ Hid (∀ j, j < i → cnt R C (co R C q z) (L.getD j 0) ≤ 1) ∧ Below w2.heap.size w2 wr) (fun vi _ => P - (intOf vi).toNat)
          case atStart => exact ⟨0, by omega, rfl, Lib.hid (fun j hj => by omega), Below.refl _ _⟩
          case round =>
            obtain ⟨i, hi, rfl, hOK, hb⟩ := hrel
            have hb3 := b2.trans (hb.mono b2.size)
            by_cases hlt : i < P
            · have q0 : (i : Int) < (P : Int) := by omega
              obtain ⟨bb, oo, rfl, _, hc⟩ := (HOL.out.below hb).cells (by omega)
              have y1 := hc i hlt
              rw [li_get] at y1
              obtain ⟨hvN, _, _⟩ := HDB.out i (by rw [HLL.out]; exact hlt)
              have HNO1 := Lib.hid (HNO.out i (by rw [HLL.out]; exact hlt))
              obtain ⟨v, hv⟩ : ∃ v, L.getD i 0 = v := ⟨_, rfl⟩
              have HV := Lib.hid hv
              rw [hv] at y1 hvN HNO1
              have hv25 : v < 25 := by omega
              have q1 : (v : Int) < 25 := by omega
              obtain ⟨kk, pp, yy, cc, k1', k2', k3', k4', k5', k6'⟩ := near2_facts HOP.out.sd (n := v) (by rw [HN.out]; exact hvN) q z hq32 hz32
              have m0 := Flr.near (R := R) (C := C) (ArrV.below HFA.out hb3) v (by rw [nearN_len]; exact hv25)
              rw [k1'] at m0
              have m1 := (hb.cell (World.block_lt_of_cell? w2 _ c1)).trans c1
              have HCC := Lib.hid k4'
              have HC3 := Lib.hid k6'
              clear hc hv k1' k4' k6'
              by_cases h2 : cc ≤ 1
              · have e1 : decide ((1 : Int) < (cc : Int)) = false := by simp; omega
                have e2 : decide (1 < cc) = false := by simp; omega
                have HOK2 : Hid (∀ j, j < i + 1 → cnt R C (co R C q z) (L.getD j 0) ≤ 1) := Lib.hid fun j hj => by
                  by_cases hj2 : j = i
                  · rw [hj2, HV.out, ← HCC.out]; exact h2
                  · exact hOK.out j (by omega)
                go_wp2_with fail
                go_quiet ((go_at_call 61; exact Calls.quiet_of (HC3.out _)))
                go_wp2
                go_roundw
                case rel => first | exact ⟨i + 1, by omega, by go_num, HOK2, belowN hb _⟩ | ((repeat apply Exists.intro); exact ⟨⟨i + 1, by omega, by go_num, HOK2, belowN hb _⟩, rfl⟩)
                case measure => (simp [intOf] <;> omega)
              · have e1 : decide ((1 : Int) < (cc : Int)) = true := by simp; omega
                have e2 : decide (1 < cc) = true := by simp; omega
                have HFIN : Hid (provE r c S F Z = 14) := Lib.hid (by rw [HR.out, HSC.out, if_pos rfl, HNO1.out (by rw [← HCC.out]; exact h2), if_neg (by simp)])
                have hbf := kb.trans (hb3.mono hkb)
                go_wp2_with fail
                go_quiet ((go_at_call 61; exact Calls.quiet_of (HC3.out _)))
                go_wp2
                go_ret
                exact ⟨ret_i HFIN.out.symm, belowN hbf _⟩
            · obtain rfl : P = i := by omega
              have HFIN : Hid (provE r c S F Z = 0) := Lib.hid (by rw [HR.out, HSC.out, if_pos rfl, HYES.out (fun i hi => hOK.out i (by rw [← HLL.out]; exact hi)), if_pos rfl])
              have hbf := kb.trans (hb3.mono hkb)
              go_wp2_with fail
              go_ret
              exact ⟨ret_i HFIN.out.symm, hbf⟩
        · have f0 : ((u : Int) != 0) = true := by simp; omega
          have HFIN : Hid (provE r c S F Z = 14) := Lib.hid (by rw [HR.out, HSC.out, if_pos rfl, okB_sick (by rw [HN.out]; exact hQ.out) (by rw [hu]; exact hu0), if_neg (by simp)])
          clear hu hu0
          go_wp2_with fail
          go_ret
          exact ⟨ret_i HFIN.out.symm, kb⟩
set_option maxHeartbeats 1000000 in
theorem Least_any (r c : Int) (w : World) : Calls Tryd.prog 26 #[.int .i64 r, .int .i64 c] w fun e w' => e = .returned (.tuple #[.int .i64 (if sdB r c = true then (r + c + 1) / 2 else 0), .int .i64 (if sdB r c = true then 0 else 1)]) ∧ w = w' := by
  obtain ⟨B, hB⟩ : ∃ B, sdB r c = B := ⟨_, rfl⟩
  have HC := Lib.hid (fun w => sided_any r c w B hB)
  cases B with
  | false =>
    rw [if_neg (by rw [hB]; simp), if_neg (by rw [hB]; simp)]
    clear hB
    go_enter Tryd.func26, Tryd.ntmps26
    go_wp2_with fail
    refine (HC.out _).mono ?_
    rintro e w1 ⟨rfl, rfl⟩
    go_wp2_with fail
    go_ret2
    exact ⟨rfl, rfl⟩
  | true =>
    rw [if_pos hB, if_pos hB]
    obtain ⟨R, C, rfl, rfl, hs⟩ := sdB_sd hB
    have h1 := hs.r5
    have h2 := hs.c5
    clear hB hs
    go_enter Tryd.func26, Tryd.ntmps26
    go_wp2_with fail
    refine (HC.out _).mono ?_
    rintro e w1 ⟨rfl, rfl⟩
    go_wp2_with fail
    go_ret2
    exact ⟨rfl, rfl⟩
end Go.Proofs.YtbhjphcomppjgaaDoor
