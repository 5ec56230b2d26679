/- Walks of chapter 9: the reference: what is reached; outlines. -/
import Derived.Test.YtbhjphcomppjgaaDoorRd
namespace Beetle09
theorem daysL_get {R C z s i : Nat} (hi : i < R * C) : (daysL R C z s).getD i 0 = cal R C z s (R * C) i := by
  unfold daysL; rw [map_get, if_pos hi]
theorem days_fin {R C z s i : Nat} (hi : i < R * C) : 0 ≤ (daysL R C z s).getD i 0 ↔ (fin R C z s).testBit i = true := by
  rw [daysL_get hi]; exact (cal_nonneg _ i).1
theorem li_mem {l : List Nat} {k : Nat} : (k : Int) ∈ li l ↔ k ∈ l := by
  unfold li; rw [List.mem_map]
  exact ⟨fun ⟨n, h1, h2⟩ => by rw [← Int.ofNat.inj h2]; exact h1, fun h => ⟨k, h, rfl⟩⟩
theorem els_step_len (N s : Nat) : (els (N + 1) s).length = (els N s).length + if s.testBit N then 1 else 0 := by
  rw [els_succ, List.length_append]; cases s.testBit N <;> rfl
end Beetle09
namespace Go.Proofs.YtbhjphcomppjgaaDoor
open Go.RowKit Beetle09
variable {S F : List Int} {a b : Option Addr} {n m k j : Nat} {w : World}

set_option maxHeartbeats 8000000 in
set_option maxRecDepth 100000 in
theorem rspread_any (R C s z : Nat) (hS : IsL w a n k S) (hF : IsL w b m j F) (hs : Sd R C) (h1 : Mm (R * C) S s) (h2 : Mm (R * C) F z) : Calls Tryd.prog 57 #[stV R C a b n k m j] w fun e w' => ∃ x c, e = .returned (.slice x (pcN (R * C) (fin R C z s)) c) ∧ OwnL w' 3 (w.heap.size + 1) x (pcN (R * C) (fin R C z s)) c (li (els (R * C) (fin R C z s))) ∧ Below w.heap.size w w' := by
  have n25 := hs.n25
  have HB0 := Lib.hid (BoxS.start w (bxL R C a b n k m j) 27)
  have x0 := val HB0.out.box 0 rfl
  have x1 := val HB0.out.box 1 rfl
  have x2 := val HB0.out.box 2 rfl
  have x3 := val HB0.out.box 3 rfl
  have HC := Lib.hid (rdays_any R C s z (hS.below HB0.out.below) (hF.below HB0.out.below) hs h1 h2)
  have HDF := Lib.hid (fun i hi => days_fin (R := R) (C := C) (z := z) (s := s) (i := i) hi)
  have HLE := Lib.hid (els_len (R * C) (fin R C z s))
  obtain ⟨N, hN⟩ : ∃ N, R * C = N := ⟨_, rfl⟩
  obtain ⟨q, hq⟩ : ∃ q, fin R C z s = q := ⟨_, rfl⟩
  obtain ⟨D, hD⟩ : ∃ D, daysL R C z s = D := ⟨_, rfl⟩
  rw [hN, hD] at HC
  rw [hN, hq, hD] at HDF
  rw [hN, hq] at HLE ⊢
  rw [hN] at n25
  clear hN hq hD h1 h2 hs hS hF
  go_enter Tryd.func57, Tryd.ntmps57
  go_wp2_with fail
  refine HC.out.mono ?_
  rintro e w1 ⟨xd, cd, rfl, hO, b1⟩
  have k1 : Below w.heap.size w w1 := HB0.out.below.trans (b1.mono HB0.out.below.size)
  have hsz := k1.size
  have hwz : w.heap.size + 1 ≤ w1.heap.size := Nat.le_trans HB0.out.lt b1.size
  have hcap := hO.isL.cap
  have hle := hO.isL.le
  have HO := Lib.hid hO.isL
  clear hO b1 HC x0 x1 x2 x3 HB0
  go_wp2_with fail
  go_loopw [5, 3] (fun vi vo wr => ∃ (i n2 : Nat) (ao : Option Addr) (co : Nat), i ≤ N ∧ vi = .int .i64 (i : Int) ∧ vo = .slice ao n2 co ∧ n2 ≤ i ∧ Hid (OwnL wr 3 w1.heap.size ao n2 co (li (els i q))) ∧ Below w1.heap.size w1 wr) (fun vi _ _ => N - (intOf vi).toNat)
  case atStart => exact ⟨0, 0, none, 0, by omega, rfl, rfl, by omega, Lib.hid (OwnL.nilL _ _ _), Below.refl _ _⟩
  case round =>
    obtain ⟨i, n2, ao, co, hi, rfl, rfl, hn2, hO, hb⟩ := hrel
    have hs2 := hb.size
    by_cases hlt : i < N
    · have q0 : (i : Int) < (N : Int) := by omega
      obtain ⟨bb, oo, rfl, _, hc⟩ := (HO.out.below hb).cells (by omega)
      have y1 := hc i hlt
      have HV := Lib.hid (HDF.out i hlt)
      obtain ⟨v, hv⟩ : ∃ v, D.getD i 0 = v := ⟨_, rfl⟩
      rw [hv] at y1 HV
      clear hc hv
      by_cases hv0 : 0 ≤ v
      · have HE : Hid (li (els (i + 1) q) = li (els i q) ++ [(i : Int)]) := Lib.hid (by rw [els_succ, if_pos (HV.out.1 hv0), li_app]; rfl)
        go_wp2_with (at_builtin; refine wl_app_own Tryd.underlying22 elem3 w1.heap.size (.tmp 19) (.tmp 21) rfl rfl rfl rfl (hO.out.alloc _) (isL_one _ _ _) (by simp; omega) (by omega) ?_)
        intro a5 c5 w5 ho5 hg5 hb5 _
        have hO5 : Hid (OwnL w5 3 w1.heap.size a5 (n2 + 1) c5 (li (els (i + 1) q))) := Lib.hid (by rw [HE.out]; exact ho5)
        have hb6 : Below w1.heap.size w1 w5 := (hb.alloc (by omega) _).trans hb5
        clear ho5 hg5 hb5 hO
        go_wp2
        go_roundw
        case rel => first | exact ⟨i + 1, n2 + 1, a5, c5, by omega, by go_num, rfl, by omega, hO5, hb6⟩ | ((repeat apply Exists.intro); exact ⟨⟨i + 1, n2 + 1, a5, c5, by omega, by go_num, rfl, by omega, hO5, hb6⟩, rfl⟩)
        case measure => (simp [intOf] <;> omega)
      · have hv1 : decide (0 ≤ v) = false := by simpa using hv0
        have HB : Hid (¬ q.testBit i = true) := Lib.hid fun h => hv0 (HV.out.2 h)
        have hO5 : Hid (OwnL wr 3 w1.heap.size ao n2 co (li (els (i + 1) q))) := Lib.hid (by rw [els_succ, if_neg HB.out, List.append_nil]; exact hO.out)
        clear hv0
        go_wp2_with fail
        go_roundw
        case rel => first | exact ⟨i + 1, n2, ao, co, by omega, by go_num, rfl, by omega, hO5, hb⟩ | ((repeat apply Exists.intro); exact ⟨⟨i + 1, n2, ao, co, by omega, by go_num, rfl, by omega, hO5, hb⟩, rfl⟩)
        case measure => (simp [intOf] <;> omega)
    · obtain rfl : N = i := by omega
      have hnl : n2 = pcN N q := by have := hO.out.len; rw [li_len, HLE.out] at this; exact this.symm
      subst hnl
      go_wp2_with fail
      go_ret
      exact ⟨_, _, rfl, hO.out.weaken hwz, k1.trans (hb.mono hsz)⟩
set_option maxHeartbeats 8000000 in
set_option maxRecDepth 100000 in
theorem routline_any (R C sB : Nat) (x : Option Addr) (nx cx : Nat) (l : List Nat) (hB : IsL w x nx cx (li l)) (hs : Sd R C) (hl : ∀ i ∈ l, i < R * C) (hm : Mm (R * C) (li l) sB) (hl25 : l.length ≤ 1000) :
    Calls Tryd.prog 77 #[stV R C a b n k m j, .slice x nx cx] w fun e w' => e = .returned (.int .i64 (outlL R C sB l)) ∧ Below w.heap.size w w' := by
  have n25 := hs.n25
  have hnx := hB.len
  rw [li_len] at hnx
  have hcap := hB.cap
  have hle := hB.le
  have HNX := Lib.hid hnx
  have HSD := Lib.hid hs
  have HMM := Lib.hid hm
  have HLT : Hid (∀ i, i < nx → l.getD i 0 < R * C) := Lib.hid fun i hi => hl _ (by rw [List.getD, List.getElem?_eq_getElem (by omega)]; exact List.getElem_mem _)
  have hnx1 : nx ≤ 1000 := by omega
  have HB0 := Lib.hid (BoxS.start w (bxL R C a b n k m j) 27)
  have HBES := Lib.hid (fun i w hi => beside_any R C a b n k m j i w hs.r5 hs.c5 hs.c1 hi)
  have HBL := Lib.hid hB
  clear hnx hl25 hl hm hs hB
  go_enter Tryd.func77, Tryd.ntmps77
  go_wp2_with fail
  go_loopw [6, 5] (fun vi vo wr => ∃ (i : Nat) (o : Int), i ≤ nx ∧ vi = .int .i64 (i : Int) ∧ vo = .int .i64 o ∧ Hid (outlL R C sB (l.take i) = o) ∧ Hid (BoxS w wr 27 (bxL R C a b n k m j))) (fun vi _ _ => nx - (intOf vi).toNat)
  case atStart => exact ⟨0, 0, by omega, rfl, rfl, Lib.hid rfl, HB0⟩
  case round =>
    clear HB0
    obtain ⟨i, o, hi, rfl, rfl, hE, hT⟩ := hrel
    have hob := outlL_bd R C sB (l.take i)
    rw [hE.out, List.length_take] at hob
    have ho1 : 0 ≤ o := hob.1
    have ho2 : o ≤ 4000 := by have := hob.2; omega
    clear hob
    by_cases hlt : i < nx
    · have q0 : (i : Int) < (nx : Int) := by omega
      have hW1 := HBL.out.below hT.out.below
      obtain ⟨bb, oo, rfl, _, hc⟩ := hW1.cells (by omega)
      have y1 := hc i hlt
      rw [li_get] at y1
      have hvN := HLT.out i hlt
      have HTK := Lib.hid (outlL_take R C sB l i (by rw [HNX.out]; exact hlt))
      obtain ⟨v, hv⟩ : ∃ v, l.getD i 0 = v := ⟨_, rfl⟩
      rw [hv] at y1 hvN HTK
      have x0 := val hT.out.box 0 rfl
      have x1 := val hT.out.box 1 rfl
      have x2 := val hT.out.box 2 rfl
      have x3 := val hT.out.box 3 rfl
      have HCB := Lib.hid (HBES.out v wr.drew hvN)
      have hNBl := nb_len R C v
      have HNG : Hid (∀ q, q < (nb R C v).length → (nb R C v).getD q 0 < R * C) := Lib.hid fun q hq => nb_get HSD.out hvN hq
      have HKS : Hid (∀ q, q < (nb R C v).length → cntK R C sB v (q + 1) = cntK R C sB v q + if sB.testBit ((nb R C v).getD q 0) then 1 else 0) := Lib.hid fun q hq => cntK_succ hq
      have HKF := Lib.hid (cntK_fin R C sB v)
      obtain ⟨L, hL⟩ : ∃ L, nb R C v = L := ⟨_, rfl⟩
      rw [hL] at HCB hNBl HNG HKS HKF
      obtain ⟨Q, hQ⟩ : ∃ Q, L.length = Q := ⟨_, rfl⟩
      rw [hQ] at HCB hNBl HNG HKS HKF
      clear hL hQ hc hv hW1
      go_wp2_with fail
      go_still_tail 5, (by kernel_rfl)
      go_wp2_with fail
      refine HCB.out.mono ?_
      rintro e w5 ⟨xb, cb, rfl, hOL, b5⟩
      have b6 : Below wr.heap.size wr w5 := (Below.refl wr.heap.size wr).drew.trans b5
      have hcap2 := hOL.isL.cap
      have hle2 := hOL.isL.le
      have hT2 := Lib.hid (hT.out.to b6)
      have HOL := Lib.hid hOL
      have HBL2 := Lib.hid (HBL.out.below hT2.out.below)
      clear hOL b5 b6 hT y1 x0 x1 x2 x3 HCB
      go_wp2_with fail
      go_loopw [8, 5] (fun vi vo wr => ∃ (q c : Nat), q ≤ Q ∧ vi = .int .i64 (q : Int) ∧ vo = .int .i64 (o + 4 - (c : Int)) ∧ c ≤ q ∧ Hid (c = cntK R C sB v q) ∧ w5 = wr) (fun vi _ _ => Q - (intOf vi).toNat)
      case atStart => exact ⟨0, 0, by omega, rfl, by go_num, by omega, Lib.hid (cntK_zero _ _ _ _).symm, rfl⟩
      case round =>
        obtain ⟨q, c, hq, rfl, rfl, hcq, hK, rfl⟩ := hrel
        by_cases hqQ : q < Q
        · have q3 : (q : Int) < (Q : Int) := by omega
          obtain ⟨gb, rfl⟩ := HOL.out.addr (by omega)
          have y1 := (HOL.out.gen.cell q 0 hqQ).1
          rw [li_get] at y1
          have hkN := HNG.out q hqQ
          have HK1 := Lib.hid (HKS.out q hqQ)
          obtain ⟨kk, hkk⟩ : ∃ kk, L.getD q 0 = kk := ⟨_, rfl⟩
          rw [hkk] at y1 hkN HK1
          obtain ⟨B, hB⟩ : ∃ B, sB.testBit kk = B := ⟨_, rfl⟩
          have HC := Lib.hid (rhas_any _ _ _ (li l) (kk : Int) _ HBL2.out B (by rw [HMM.out.bit hkN]; exact hB))
          rw [hB] at HK1
          clear hkk hB
          cases B with
          | true =>
            have HK2 : Hid (c + 1 = cntK R C sB v (q + 1)) := Lib.hid (by rw [HK1.out, ← hK.out]; rfl)
            go_wp2_with fail
            refine HC.out.mono ?_
            rintro e w6 ⟨rfl, rfl⟩
            go_wp2_with fail
            go_roundw
            case rel => first | exact ⟨q + 1, c + 1, by omega, by go_num, by go_num, by omega, HK2, by first | trivial | rfl⟩ | ((repeat apply Exists.intro); exact ⟨⟨q + 1, c + 1, by omega, by go_num, by go_num, by omega, HK2, by first | trivial | rfl⟩, rfl⟩)
            case measure => (simp [intOf] <;> omega)
          | false =>
            have HK2 : Hid (c = cntK R C sB v (q + 1)) := Lib.hid (by rw [HK1.out, ← hK.out]; rfl)
            go_wp2_with fail
            refine HC.out.mono ?_
            rintro e w6 ⟨rfl, rfl⟩
            go_wp2_with fail
            go_roundw
            case rel => first | exact ⟨q + 1, c, by omega, by go_num, rfl, by omega, HK2, by first | trivial | rfl⟩ | ((repeat apply Exists.intro); exact ⟨⟨q + 1, c, by omega, by go_num, rfl, by omega, HK2, by first | trivial | rfl⟩, rfl⟩)
            case measure => (simp [intOf] <;> omega)
        · obtain rfl : Q = q := by omega
          have HE2 : Hid (outlL R C sB (l.take (i + 1)) = o + 4 - (c : Int)) := Lib.hid (by rw [HTK.out, hE.out, hK.out, HKF.out]; omega)
          go_wp2_with fail
          go_roundw
          case rel => first | exact ⟨i + 1, o + 4 - (c : Int), by omega, by go_num, rfl, HE2, hT2⟩ | ((repeat apply Exists.intro); exact ⟨⟨i + 1, o + 4 - (c : Int), by omega, by go_num, rfl, HE2, hT2⟩, rfl⟩)
          case measure => (simp [intOf] <;> omega)
    · obtain rfl : nx = i := by omega
      have HR : Hid (o = outlL R C sB l) := Lib.hid (by rw [← hE.out, List.take_of_length_le (by rw [HNX.out]; exact Nat.le_refl _)])
      go_wp2_with fail
      go_ret
      exact ⟨ret_i HR.out, hT.out.below⟩
end Go.Proofs.YtbhjphcomppjgaaDoor
