/- Walks of chapter 9: the reference: which bales have to be frozen to save one. -/
import Derived.Test.YtbhjphcomppjgaaDoorRf
import Derived.Test.YtbhjphcomppjgaaDoorPx
import Derived.Test.YtbhjphcomppjgaaDoorLib7
namespace Go.Proofs.YtbhjphcomppjgaaDoor
open Go.RowKit Beetle09
/-- A list of bales, or none. -/
def KpR (w : World) (o : Option (List Nat)) : Ending → World → Prop := fun e w' => ∃ a n c B, e = .returned (.tuple #[.slice a n c, .bool B]) ∧ Below w.heap.size w w' ∧ ((o = none ∧ B = false) ∨ ∃ l, o = some l ∧ B = true ∧ IsL w' a n c (li l))
set_option maxHeartbeats 16000000 in
set_option maxRecDepth 100000 in
theorem kept_zero (R C s z x : Nat) (S F : List Int) (a0 b0 : Option Addr) (n0 k0 m0 j0 : Nat) (hs : Sd R C) (h1 : Mm (R * C) S s) (h2 : Mm (R * C) F z) (hx : x < R * C) (b : List Nat) (a : Option Addr) (n k : Nat) (w : World) (hbl : b.length ≤ 4) (hm0 : m0 ≤ 25) (hbeg : Beg (R * C) b) (hS : IsL w a0 n0 k0 S) (hF : IsL w b0 m0 j0 F) (hB : IsL w a n k (li b)) :
    Calls Tryd.prog 74 #[stV R C a0 b0 n0 k0 m0 j0, .int .i64 (x : Int), .slice a n k, .int .i64 ((0 : Nat) : Int)] w (KpR w (if kpGG R C s z x b then some b else none)) := by
  have n25 := hs.n25
  have hR5 := hs.r5
  have hC5 := hs.c5
  have hlen := hB.len
  rw [li_len] at hlen
  have hn4 : n ≤ 4 := by omega
  have hcap := hB.cap
  have hle := hB.le
  have hBIS := Lib.hid hB
  have HBX0 := Lib.hid (BoxS.start w (bxL R C a0 b0 n0 k0 m0 j0) 27)
  obtain ⟨w1, hw1⟩ : ∃ w1, w.alloc (.cells (bxL R C a0 b0 n0 k0 m0 j0).toArray 27) = w1 := ⟨_, rfl⟩
  have hz1 : w1.heap.size = w.heap.size + 1 := by rw [← hw1]; simp
  rw [hw1] at HBX0
  have HBX1 := Lib.hid (BoxS.start w1 (bxL R C a0 b0 n0 k0 m0 j0) 27)
  obtain ⟨w2, hw2⟩ : ∃ w2, w1.alloc (.cells (bxL R C a0 b0 n0 k0 m0 j0).toArray 27) = w2 := ⟨_, rfl⟩
  have hz2 : w2.heap.size = w.heap.size + 2 := by rw [← hw2]; simp [hz1]
  rw [hw2] at HBX1
  have HB2 : Hid (Below w.heap.size w w2) := Lib.hid (HBX0.out.below.trans (HBX1.out.below.mono (by omega)))
  have HA2 : Hid (ArrV VV w2 (w.heap.size + 1) 27 (bxL R C a0 b0 n0 k0 m0 j0)) := Lib.hid (by have := HBX1.out.box; rwa [hz1] at this)
  have HA1 := Lib.hid (HBX0.out.to HBX1.out.below)
  have HLIT := own_lit w2 3 (w.heap.size + 2) (by omega) ([] : List Int) #[] 0 rfl rfl (by decide)
  have HF2 := (hF.below HB2.out).alloc (.cells #[] 3)
  rw [← hw2, ← hw1] at HLIT HF2
  simp only [World.size_alloc] at HLIT
  have HLIT2 := Lib.hid HLIT
  have HF22 := Lib.hid HF2
  have HS2 := Lib.hid (hS.below HB2.out)
  have HSW := Lib.hid hS
  have HN2 := Lib.hid (hB.below HB2.out)
  have hA3 := HA1.out.alloc (.cells #[] 3)
  have x3 := val hA3.box 3 rfl
  have x0' := val HA1.out.box 0 rfl
  have x1' := val HA1.out.box 1 rfl
  have x2' := val HA1.out.box 2 rfl
  have x3' := val HA1.out.box 3 rfl
  have X0' := val HBX0.out.box 0 rfl
  have X1' := val HBX0.out.box 1 rfl
  have X2' := val HBX0.out.box 2 rfl
  have X3' := val HBX0.out.box 3 rfl
  have HMF := Lib.hid (frz_mm h2 hbeg.lt)
  have HMS := Lib.hid h1
  have HSD := Lib.hid hs
  have HX := Lib.hid hx
  have hx25 : x < 25 := by omega
  obtain ⟨v, hv⟩ : ∃ v, (daysL R C (z ||| setL b) s).getD x 0 = v := ⟨_, rfl⟩
  have HDF := days_fin (R := R) (C := C) (z := z ||| setL b) (s := s) hx
  rw [hv] at HDF
  obtain ⟨B, hBB⟩ : ∃ B, decide (v < 0) = B := ⟨_, rfl⟩
  have HG : Hid (kpGG R C s z x b = B) := Lib.hid (by
    rw [kpGG, kpG, ← hBB]
    cases hf : (fin R C (z ||| setL b) s).testBit x with
    | true => have := HDF.2 hf; rw [decide_eq_false (by omega)]; rfl
    | false => rw [decide_eq_true (by
        by_cases h : 0 ≤ v
        · have := HDF.1 h; rw [hf] at this; cases this
        · omega)]; rfl)
  obtain ⟨O, hO⟩ : ∃ O, (if kpGG R C s z x b = true then some b else none) = O := ⟨_, rfl⟩
  rw [HG.out] at hO
  have HO := Lib.hid hO
  rw [HG.out, hO]
  clear hO
  have HV := Lib.hid hv
  have HW1 := Lib.hid hw1
  have HW2 := Lib.hid hw2
  clear hs h1 h2 hx hbl hbeg hS hF hB hlen hv HDF hw1 hw2
  have e1 : ((0 : Int) == 0) = true := by decide
  have e2 : (((0 : Nat) : Int) == 0) = true := by decide
  go_enter Tryd.func74, Tryd.ntmps74
  go_wp2_with (at_builtin; refine wl_app_own Tryd.underlying22 elem3 (w.heap.size + 2) (.tmp 18) (.tmp 20) rfl rfl rfl rfl HLIT2.out HF22.out (by simp) (by omega) ?_)
  intro a4 c4 w4 ho4 _ hb4 _
  have hb4' : Below w2.heap.size w2 w4 := by
    rw [hz2, ← HW2.out, ← HW1.out]
    exact ((Below.refl _ _).alloc (by simp) _).trans hb4
  have hs4 := hb4'.size
  go_wp2_with (at_builtin; refine wl_app_own Tryd.underlying22 elem3 (w.heap.size + 2) (.tmp 21) (.tmp 22) rfl rfl rfl rfl ho4 (HN2.out.below hb4') (by omega) (by omega) ?_)
  intro a5 c5 w5 ho5 _ hb5 _
  have hb5' : Below w2.heap.size w2 w5 := hb4'.trans (hb5.mono (by omega))
  have HO5 : Hid (OwnL w5 3 (w.heap.size + 2) a5 (m0 + n) c5 (F ++ li b)) := Lib.hid (by simpa using ho5)
  have HA5 : Hid (ArrV VV w5 (w.heap.size + 1) 27 (bxL R C a0 b0 n0 k0 m0 j0)) := Lib.hid ((hb5'.block (w.heap.size + 1) (by omega)).trans HA2.out)
  have HC5 := Lib.hid (HA1.out.to hb5')
  have hs5 := hb5'.size
  have HA6 : Hid (ArrV VV (w5.setCell ⟨w.heap.size + 1, 3, none⟩ (.slice a5 (m0 + n) c5)) (w.heap.size + 1) 27 (bxL R C a0 a5 n0 k0 (m0 + n) c5)) := Lib.hid (HA5.out.set 3 (.slice a5 (m0 + n) c5))
  have HO6 : Hid (OwnL (w5.setCell ⟨w.heap.size + 1, 3, none⟩ (.slice a5 (m0 + n) c5)) 3 (w.heap.size + 2) a5 (m0 + n) c5 (F ++ li b)) := Lib.hid (HO5.out.grownS (grown_setCell _ _ _ _) (fun x y hx hy => by
    have := (HO5.out.lt x hx).1
    obtain rfl := Option.some.inj hy
    show x.block ≠ w.heap.size + 1
    omega))
  have HB6 : Hid (Below w.heap.size w (w5.setCell ⟨w.heap.size + 1, 3, none⟩ (.slice a5 (m0 + n) c5))) := Lib.hid ((HB2.out.trans (hb5'.mono (by omega))).setCell (p := ⟨w.heap.size + 1, 3, none⟩) (by simp) _)
  have hBX6 : Below w2.heap.size w2 w5 := hb5'
  have u3 := val HA5.out 3 rfl
  have u3f := HA5.out.frozen 3
  have HS6 : Hid (IsL (w5.setCell ⟨w.heap.size + 1, 3, none⟩ (.slice a5 (m0 + n) c5)) a0 n0 k0 S) := Lib.hid (HSW.out.below HB6.out)
  obtain ⟨W, hW⟩ : ∃ W, w5.setCell ⟨w.heap.size + 1, 3, none⟩ (.slice a5 (m0 + n) c5) = W := ⟨_, rfl⟩
  rw [hW] at HA6 HO6 HB6 HS6
  have HWW := Lib.hid hW
  have y0 := val HA6.out 0 rfl
  have y1 := val HA6.out 1 rfl
  have y2 := val HA6.out 2 rfl
  have y3 := val HA6.out 3 rfl
  have H76 : Hid (∀ w', GoodW W w' → Calls Tryd.prog 76 #[stV R C a0 a5 n0 k0 (m0 + n) c5] w' fun e w2 => ∃ g c, e = .returned (.slice (some ⟨g, 0, none⟩) (R * C) c) ∧ w2.cell? ⟨g, x, none⟩ = some (.int .i64 v) ∧ GoodW W w2) := Lib.hid fun w' h => (rdays_any R C s (z ||| setL b) (HS6.out.below h) (HO6.out.isL.below h) HSD.out HMS.out HMF.out).mono fun _ w2 ⟨xd, cd, he, ho, hb⟩ => by
    have hx := HX.out
    obtain ⟨g, rfl⟩ := ho.addr (by omega)
    have := (ho.gen.cell x 0 hx).1
    rw [HV.out] at this
    exact ⟨g, cd, he, this, h.to hb⟩
  obtain ⟨N, hN⟩ : ∃ N, R * C = N := ⟨_, rfl⟩
  have hxN := HX.out
  rw [hN] at H76 hxN n25
  have q0 : (x : Int) < (N : Int) := by omega
  have HG0 : GoodW W W.drew := (Below.refl _ _).drew
  clear ho4 hb4 ho5 hb5 hb4' hb5' hBX6 hW hN x3 hA3 HLIT HF2 HLIT2 HF22 HS2 HN2 HA2 HA1 HA5 HC5 HO5 hs4
  go_wp2_with fail
  rw [HWW.out]
  go_region_with ((go_at_call 76; with_reducible refine (H76.out _ ?_).mono ?_; assumption; rintro e w7 ⟨gd, cd, rfl, hcell, hG⟩))
  all_goals
    have hbw : Below w.heap.size w w7 := HB6.out.trans (Below.mono hG HB6.out.size)
    go_wp2_with fail
    go_ret2
    cases B with
    | true => exact ⟨_, _, _, _, rfl, hbw, Or.inr ⟨b, by rw [← HO.out, if_pos rfl], rfl, hBIS.out.below hbw⟩⟩
    | false => exact ⟨_, _, _, _, rfl, hbw, Or.inl ⟨by rw [← HO.out, if_neg (by simp)], rfl⟩⟩
set_option maxHeartbeats 32000000 in
set_option maxRecDepth 100000 in
theorem kept_any (R C s z x : Nat) (S F : List Int) (a0 b0 : Option Addr) (n0 k0 m0 j0 : Nat) (hs : Sd R C) (h1 : Mm (R * C) S s) (h2 : Mm (R * C) F z) (hx : x < R * C) (hm0 : m0 ≤ 25) :
    ∀ (m : Nat) (b : List Nat) (a : Option Addr) (n k : Nat) (w : World), b.length + m ≤ 4 → Beg (R * C) b → IsL w a0 n0 k0 S → IsL w b0 m0 j0 F → IsL w a n k (li b) →
    Calls Tryd.prog 74 #[stV R C a0 b0 n0 k0 m0 j0, .int .i64 (x : Int), .slice a n k, .int .i64 (m : Int)] w (KpR w (dfs (kpPP R C s z x) (kpGG R C s z x) ((List.range (R * C)).drop (frm b)) m b)) := by
  intro m
  induction m with
  | zero =>
    intro b a n k w hbm hbeg hS hF hB
    rw [dfs_zero]
    exact kept_zero R C s z x S F a0 b0 n0 k0 m0 j0 hs h1 h2 hx b a n k w (by omega) hm0 hbeg hS hF hB
  | succ m ih =>
    intro b a n k w hbm hbeg hS hF hB
    have n25 := hs.n25
    have hR5 := hs.r5
    have hC5 := hs.c5
    have m1 : (R : Int) * (C : Int) = ((R * C : Nat) : Int) := by simp
    have HIH := Lib.hid ih
    have hlen := hB.len
    rw [li_len] at hlen
    have hcap := hB.cap
    have hle := hB.le
    have hn4 : n ≤ 3 := by omega
    have hfl := hbeg.frm_le2
    have HBG := Lib.hid hbeg
    have HLB := Lib.hid hlen
    have HB0 := Lib.hid (BoxS.start w (bxL R C a0 b0 n0 k0 m0 j0) 27)
    have HBA := Lib.hid (hB.below HB0.out.below)
    have HBIS := Lib.hid hB
    have HSIS := Lib.hid hS
    have HFIS := Lib.hid hF
    have HMS := Lib.hid h1
    have HMF := Lib.hid h2
    have hx25 : x < 25 := by omega
    have HPP : Hid (∀ i, i < R * C → kpPP R C s z x (b ++ [i]) m = (!s.testBit i && (!z.testBit i && decide (x ≠ i)))) := Lib.hid fun i hi => kpPP_snoc n25 (lt25 h1.lt n25) (lt25 h2.lt n25) hx25 hi
    have HDY : Hid (∀ n l, n < R * C → kpPP R C s z x (b ++ [n]) m = true → dfs (kpPP R C s z x) (kpGG R C s z x) ((List.range (R * C)).drop (n + 1)) m (b ++ [n]) = some l → dfs (kpPP R C s z x) (kpGG R C s z x) ((List.range (R * C)).drop n) (m + 1) b = some l) := Lib.hid fun n l h h1 h2 => dfs_yes h h1 h2
    have HDX : Hid (∀ n, n < R * C → kpPP R C s z x (b ++ [n]) m = true → dfs (kpPP R C s z x) (kpGG R C s z x) ((List.range (R * C)).drop (n + 1)) m (b ++ [n]) = none → dfs (kpPP R C s z x) (kpGG R C s z x) ((List.range (R * C)).drop n) (m + 1) b = dfs (kpPP R C s z x) (kpGG R C s z x) ((List.range (R * C)).drop (n + 1)) (m + 1) b) := Lib.hid fun n h h1 h2 => dfs_next h h1 h2
    have HDS : Hid (∀ n, n < R * C → kpPP R C s z x (b ++ [n]) m = false → dfs (kpPP R C s z x) (kpGG R C s z x) ((List.range (R * C)).drop n) (m + 1) b = dfs (kpPP R C s z x) (kpGG R C s z x) ((List.range (R * C)).drop (n + 1)) (m + 1) b) := Lib.hid fun n h h1 => dfs_skip h h1
    have HDE : Hid (dfs (kpPP R C s z x) (kpGG R C s z x) ((List.range (R * C)).drop (R * C)) (m + 1) b = none) := Lib.hid dfs_end
    have HOB : Hid (∀ n, n < R * C → frm b ≤ n → Beg (R * C) (b ++ [n])) := Lib.hid fun n h1 h2 => HBG.out.snoc h1 h2
    obtain ⟨M, hM⟩ : ∃ M, m + 1 = M := ⟨_, rfl⟩
    have HM := Lib.hid hM
    have hM1 : 1 ≤ M := by omega
    have hM5 : M ≤ 4 := by omega
    have e1 : ((M : Int) == 0) = false := by rw [beq_eq_false_iff_ne]; omega
    have e2 : IntKind.i64.wrap ((M : Int) - 1) = (m : Int) := by rw [IntWalk.i64_in _ (by omega)]; omega
    have hmn : n + 1 + m ≤ 4 := by omega
    rw [hM] at HDY HDX HDS HDE ⊢
    obtain ⟨N, hN⟩ : ∃ N, R * C = N := ⟨_, rfl⟩
    have HN := Lib.hid hN
    rw [hN] at n25 m1 hx HPP HDY HDX HDS HDE HOB hfl HIH HBG HMS HMF ⊢
    obtain ⟨f, hf⟩ : ∃ f, frm b = f := ⟨_, rfl⟩
    have HF := Lib.hid hf
    rw [hf] at hfl HOB ⊢
    have x0 := val HB0.out.box 0 rfl
    have x1 := val HB0.out.box 1 rfl
    clear hs hB ih hbeg hM hN hbm hS hF h1 h2
    rcases List.eq_nil_or_concat b with hbn | ⟨b1, y, hbn⟩
    · have hn0 : n = 0 := by rw [← hlen, hbn]; rfl
      have hf0 : f = 0 := by rw [← hf, hbn]; rfl
      subst hf0
      subst hn0
      clear hf hbn hlen
      go_enter Tryd.func74, Tryd.ntmps74
      go_wp2_with fail
      go_loopw [12] (fun vi wr => ∃ i : Nat, i ≤ N ∧ 0 ≤ i ∧ vi = .int .i64 (i : Int) ∧ Hid (BoxS w wr 27 (bxL R C a0 b0 n0 k0 m0 j0)) ∧ Hid (dfs (kpPP R C s z x) (kpGG R C s z x) ((List.range N).drop (0)) M b = dfs (kpPP R C s z x) (kpGG R C s z x) ((List.range N).drop i) M b)) (fun vi _ => N - (intOf vi).toNat)
      case atStart => exact ⟨0, by omega, Nat.le_refl _, by first | rfl | go_num, HB0, Lib.hid rfl⟩
      case round =>
        clear HB0 HBA x0 x1 
        obtain ⟨i, hi, hfi, rfl, hBx, hD⟩ := hrel
        have x0 := val hBx.out.box 0 rfl
        have x1 := val hBx.out.box 1 rfl
        have x2 := val hBx.out.box 2 rfl
        have x3 := val hBx.out.box 3 rfl
        by_cases hlt : i < N
        · have q0 : (i : Int) < (N : Int) := by omega
          have HP := Lib.hid (HPP.out i hlt)
          have HS1 := Lib.hid (HDS.out i hlt)
          by_cases hix : x = i
          · have q1 : ((i : Int) != (x : Int)) = false := by simp [hix]
            have HD2 : Hid (dfs (kpPP R C s z x) (kpGG R C s z x) ((List.range N).drop (0)) M b = dfs (kpPP R C s z x) (kpGG R C s z x) ((List.range N).drop (i + 1)) M b) := Lib.hid (by rw [hD.out]; exact HS1.out (by rw [HP.out]; simp [hix]))
            clear hix
            go_wp2_with fail
            go_roundw
            case rel => first | exact ⟨i + 1, by omega, by omega, by go_num, hBx, HD2⟩ | ((repeat apply Exists.intro); exact ⟨⟨i + 1, by omega, by omega, by go_num, hBx, HD2⟩, rfl⟩)
            case measure => (simp [intOf] <;> omega)
          · have q1 : ((i : Int) != (x : Int)) = true := by simp; omega
            have hix2 : decide (x ≠ i) = true := by simpa using hix
            rw [hix2] at HP
            have hSw := HSIS.out.below hBx.out.below
            have hFw := HFIS.out.below hBx.out.below
            have HCS := Lib.hid (rhas_any a0 n0 k0 S (i : Int) wr hSw (s.testBit i) (HMS.out.bit hlt))
            have HCF := Lib.hid (rhas_any b0 m0 j0 F (i : Int) wr hFw (z.testBit i) (HMF.out.bit hlt))
            clear hix hix2 hSw hFw
            cases hsi : s.testBit i with
            | true =>
              rw [hsi] at HCS HP
              have HD2 : Hid (dfs (kpPP R C s z x) (kpGG R C s z x) ((List.range N).drop (0)) M b = dfs (kpPP R C s z x) (kpGG R C s z x) ((List.range N).drop (i + 1)) M b) := Lib.hid (by rw [hD.out]; exact HS1.out (by rw [HP.out]; rfl))
              clear hsi
              go_wp2_with fail
              refine HCS.out.mono ?_
              rintro e w2 ⟨rfl, rfl⟩
              go_wp2_with fail
              go_roundw
              case rel => first | exact ⟨i + 1, by omega, by omega, by go_num, hBx, HD2⟩ | ((repeat apply Exists.intro); exact ⟨⟨i + 1, by omega, by omega, by go_num, hBx, HD2⟩, rfl⟩)
              case measure => (simp [intOf] <;> omega)
            | false =>
              rw [hsi] at HCS HP
              cases hzi : z.testBit i with
              | true =>
                rw [hzi] at HCF HP
                have HD2 : Hid (dfs (kpPP R C s z x) (kpGG R C s z x) ((List.range N).drop (0)) M b = dfs (kpPP R C s z x) (kpGG R C s z x) ((List.range N).drop (i + 1)) M b) := Lib.hid (by rw [hD.out]; exact HS1.out (by rw [HP.out]; rfl))
                clear hsi hzi
                go_wp2_with fail
                refine HCS.out.mono ?_
                rintro e w2 ⟨rfl, rfl⟩
                go_wp2_with fail
                refine HCF.out.mono ?_
                rintro e w2 ⟨rfl, rfl⟩
                go_wp2_with fail
                go_roundw
                case rel => first | exact ⟨i + 1, by omega, by omega, by go_num, hBx, HD2⟩ | ((repeat apply Exists.intro); exact ⟨⟨i + 1, by omega, by omega, by go_num, hBx, HD2⟩, rfl⟩)
                case measure => (simp [intOf] <;> omega)
              | false =>
                rw [hzi] at HCF HP
                clear hsi hzi
                go_wp2_with fail
                refine HCS.out.mono ?_
                rintro e w2 ⟨rfl, rfl⟩
                go_wp2_with fail
                refine HCF.out.mono ?_
                rintro e w2 ⟨rfl, rfl⟩
                have HIB : Hid (∀ a c w', GoodW wr w' → IsL w' a (0 + 1) c (li (b ++ [i])) → Calls Tryd.prog 74 #[stV R C a0 b0 n0 k0 m0 j0, .int .i64 (x : Int), .slice a (0 + 1) c, .int .i64 (m : Int)] w' fun e w2 => ∃ a n c B, e = .returned (.tuple #[.slice a n c, .bool B]) ∧ GoodW wr w2 ∧ ((dfs (kpPP R C s z x) (kpGG R C s z x) ((List.range N).drop (i + 1)) m (b ++ [i]) = none ∧ B = false) ∨ ∃ l, dfs (kpPP R C s z x) (kpGG R C s z x) ((List.range N).drop (i + 1)) m (b ++ [i]) = some l ∧ B = true ∧ IsL w2 a n c (li l))) := Lib.hid fun a c w' hg h => by
                  have := HIH.out (b ++ [i]) a (0 + 1) c w' (by rw [List.length_append, HLB.out]; simp; omega) (HOB.out i hlt hfi) ((HSIS.out.below hBx.out.below).below hg) ((HFIS.out.below hBx.out.below).below hg) h
                  rw [frm_snoc] at this
                  exact this.mono fun _ _ ⟨a, n, c, B, he, hb, ho⟩ => ⟨a, n, c, B, he, GoodW.to hg hb, ho⟩
                have HY1 := Lib.hid (fun l => HDY.out i l hlt)
                have HX1 := Lib.hid (HDX.out i hlt)
                obtain ⟨O, hO⟩ : ∃ O, dfs (kpPP R C s z x) (kpGG R C s z x) ((List.range N).drop (i + 1)) m (b ++ [i]) = O := ⟨_, rfl⟩
                rw [hO] at HIB HY1 HX1
                have HLI : Hid (li (b ++ [i]) = li b ++ [(i : Int)]) := Lib.hid (by rw [li_app]; rfl)
                have l0 : w.heap.size < wr.heap.size := hBx.out.box.lt
                have HBd := Lib.hid ((HBIS.out.below hBx.out.below).drew)
                have LA : Hid (OwnL (wr.drew.alloc (.cells #[] 3)) 3 wr.heap.size (some ⟨wr.heap.size, 0, none⟩) 0 0 []) := Lib.hid (own_lit wr.drew 3 wr.heap.size (Nat.le_refl _) ([] : List Int) #[] 0 rfl rfl (by decide))
                have LC : Hid (OwnL ((wr.drew.alloc (.cells #[.int .i64 (i : Int)] 3)).alloc (.cells #[] 3)) 3 wr.heap.size (some ⟨wr.heap.size + 1, 0, none⟩) 0 0 []) := Lib.hid (by have := own_lit (wr.drew.alloc (.cells #[.int .i64 (i : Int)] 3)) 3 wr.heap.size (by simp) ([] : List Int) #[] 0 rfl rfl (by decide); rw [World.size_alloc] at this; exact this)
                have Q1 : Hid (Below wr.heap.size wr (wr.drew.alloc (.cells #[] 3))) := Lib.hid ((Below.refl _ _).drew.alloc (Nat.le_refl _) _)
                have Q2 : Hid (Below wr.heap.size wr ((wr.drew.alloc (.cells #[] 3)).alloc (.cells #[.int .i64 (i : Int)] 3))) := Lib.hid (Q1.out.alloc (by simp) _)
                have Q3 : Hid (Below wr.heap.size wr ((wr.drew.alloc (.cells #[.int .i64 (i : Int)] 3)).alloc (.cells #[] 3))) := Lib.hid (((Below.refl _ _).drew.alloc (Nat.le_refl _) _).alloc (by simp) _)
                have I2 : Hid (IsL ((wr.drew.alloc (.cells #[] 3)).alloc (.cells #[.int .i64 (i : Int)] 3)) (some ⟨wr.heap.size + 1, 0, none⟩) 1 1 [(i : Int)]) := Lib.hid (by have := isL_one (wr.drew.alloc (.cells #[] 3)) (i : Int) 3; rw [World.size_alloc] at this; exact this)
                have I3 : Hid (IsL ((wr.drew.alloc (.cells #[.int .i64 (i : Int)] 3)).alloc (.cells #[] 3)) (some ⟨wr.heap.size, 0, none⟩) 1 1 [(i : Int)]) := Lib.hid ((isL_one wr.drew _ _).alloc _)
                have HX0 := Lib.hid x0
                have HX1' := Lib.hid x1
                have HX2' := Lib.hid x2
                have HX3' := Lib.hid x3
                clear hO HCS HCF HS1
                go_wp2_with fail
                go_region_held3 (fun w' => w'.cell? ⟨w.heap.size, 0, none⟩ = some (.int .i64 (R : Int)) ∧ w'.cell? ⟨w.heap.size, 1, none⟩ = some (.int .i64 (C : Int)) ∧ w'.cell? ⟨w.heap.size, 2, none⟩ = some (.slice a0 n0 k0) ∧ w'.cell? ⟨w.heap.size, 3, none⟩ = some (.slice b0 m0 j0)) (first | go_keep | exact ⟨v0, v1, v2, v3⟩ | exact ⟨u0, u1, u2, u3⟩ | exact ⟨z0, z1, z2, z3⟩ | (refine ⟨?_, ?_, ?_, ?_⟩ <;> go_simp))
                  (first
                    | ((go_at_call 74; with_reducible refine (HIB.out _ _ _ hG5 HI5.out).mono ?_); (rintro e w7 ⟨a7, n7, c7, B7, rfl, hG, hor⟩; have v0 := hG.cell HX0.out; have v1 := hG.cell HX1'.out; have v2 := hG.cell HX2'.out; have v3 := hG.cell HX3'.out))
                    | (refine step_app_own Tryd.underlying22 elem3 wr.heap.size (.tmp 74) (.tmp 76) (by rfl) (by rfl) (by rfl) (by rfl) (by first | exact ho6 | exact ho6.alloc _ | exact ho4 | exact ho4.alloc _) (by first | exact isL_one _ _ _ | exact I2.out.grown hg4 (by intro x y hx hy; cases hx; cases hy; simp) | exact I3.out.grown hg4 (by intro x y hx hy; cases hx; cases hy; simp)) (by first | exact hG4.size | exact Nat.le_trans hG4.size (by simp)) (by omega) ?_; (intro a5 c5 w5 ho5 hg5 hb5 _; have hG5 : GoodW wr w5 := (by first | exact Below.trans hG4 hb5 | exact Below.trans (Below.alloc hG4 hG4.size _) hb5); have HI5 : Hid (IsL w5 a5 (0 + 1) c5 (li (b ++ [i]))) := Lib.hid (by rw [HLI.out]; have := ho5.isL; simpa using this); have u0 := hG5.cell HX0.out; have u1 := hG5.cell HX1'.out; have u2 := hG5.cell HX2'.out; have u3 := hG5.cell HX3'.out; have l5 : w.heap.size < w5.heap.size := World.block_lt_of_cell? _ _ u0))
                    | (refine step_app_own Tryd.underlying22 elem3 wr.heap.size (.tmp 72) (.tmp 73) (by rfl) (by rfl) (by rfl) (by rfl) (by first | exact LA.out | exact LA.out.alloc _ | exact LC.out) (by first | exact HBd.out.alloc _ | exact (HBd.out.alloc _).alloc _) (by first | (simp; done) | (simp; omega)) (by omega) ?_; (intro a4 c4 w4 ho4 hg4 hb4 _; have ho6 : OwnL w4 3 wr.heap.size a4 (0) c4 (li b) := (by simpa using ho4); have hG4 : GoodW wr w4 := (by first | exact Below.trans Q1.out hb4 | exact Below.trans Q2.out hb4 | exact Below.trans Q3.out hb4); have z0 := hG4.cell HX0.out; have z1 := hG4.cell HX1'.out; have z2 := hG4.cell HX2'.out; have z3 := hG4.cell HX3'.out; have l4 : w.heap.size < w4.heap.size := World.block_lt_of_cell? _ _ z0)))
                all_goals
                  have HB7 := Lib.hid (hBx.out.to hG)
                  rcases hor with ⟨hO, rfl⟩ | ⟨l, hO, rfl, hI⟩
                  · have HD2 : Hid (dfs (kpPP R C s z x) (kpGG R C s z x) ((List.range N).drop (0)) M b = dfs (kpPP R C s z x) (kpGG R C s z x) ((List.range N).drop (i + 1)) M b) := Lib.hid (by rw [hD.out]; exact HX1.out (by rw [HP.out]; rfl) hO)
                    go_wp2_with fail
                    go_roundw
                    case rel => first | exact ⟨i + 1, by omega, by omega, by go_num, HB7, HD2⟩ | ((repeat apply Exists.intro); exact ⟨⟨i + 1, by omega, by omega, by go_num, HB7, HD2⟩, rfl⟩)
                    case measure => (simp [intOf] <;> omega)
                  · have HD2 : Hid (dfs (kpPP R C s z x) (kpGG R C s z x) ((List.range N).drop (0)) M b = some l) := Lib.hid (by rw [hD.out]; exact HY1.out l (by rw [HP.out]; rfl) hO)
                    have HI7 := Lib.hid hI
                    clear hI
                    go_wp2_with fail
                    go_ret2
                    exact ⟨_, _, _, _, rfl, HB7.out.below, Or.inr ⟨l, HD2.out, rfl, HI7.out⟩⟩
        · obtain rfl : N = i := by omega
          go_wp2_with fail
          go_ret2
          exact ⟨_, _, _, _, rfl, hBx.out.below, Or.inl ⟨by rw [hD.out]; exact HDE.out, rfl⟩⟩
    · have hbn' : b = b1 ++ [y] := by rw [hbn, List.concat_eq_append]
      have hfx : f = y + 1 := by rw [← hf, hbn', frm_snoc]
      have hnp : n = b1.length + 1 := by rw [← hlen, hbn']; simp
      obtain ⟨p, hp⟩ : ∃ p, b1.length = p := ⟨_, rfl⟩
      rw [hp] at hnp
      have hx0 : (li b).getD p 0 = (y : Int) := by rw [hbn', li_get, ← hp]; simp [List.getD]
      subst hnp
      subst hfx
      obtain ⟨bb, oo, rfl, _, hc⟩ := HBA.out.cells (by omega)
      have y1 := hc p (by omega)
      rw [hx0] at y1
      clear hf hbn hbn' hlen hc hx0 hp
      go_enter Tryd.func74, Tryd.ntmps74
      go_wp2_with fail
      go_loopw [12] (fun vi wr => ∃ i : Nat, i ≤ N ∧ (y + 1) ≤ i ∧ vi = .int .i64 (i : Int) ∧ Hid (BoxS w wr 27 (bxL R C a0 b0 n0 k0 m0 j0)) ∧ Hid (dfs (kpPP R C s z x) (kpGG R C s z x) ((List.range N).drop ((y + 1))) M b = dfs (kpPP R C s z x) (kpGG R C s z x) ((List.range N).drop i) M b)) (fun vi _ => N - (intOf vi).toNat)
      case atStart => exact ⟨(y + 1), by omega, Nat.le_refl _, by first | rfl | go_num, HB0, Lib.hid rfl⟩
      case round =>
        clear HB0 HBA x0 x1 y1
        obtain ⟨i, hi, hfi, rfl, hBx, hD⟩ := hrel
        have x0 := val hBx.out.box 0 rfl
        have x1 := val hBx.out.box 1 rfl
        have x2 := val hBx.out.box 2 rfl
        have x3 := val hBx.out.box 3 rfl
        by_cases hlt : i < N
        · have q0 : (i : Int) < (N : Int) := by omega
          have HP := Lib.hid (HPP.out i hlt)
          have HS1 := Lib.hid (HDS.out i hlt)
          by_cases hix : x = i
          · have q1 : ((i : Int) != (x : Int)) = false := by simp [hix]
            have HD2 : Hid (dfs (kpPP R C s z x) (kpGG R C s z x) ((List.range N).drop ((y + 1))) M b = dfs (kpPP R C s z x) (kpGG R C s z x) ((List.range N).drop (i + 1)) M b) := Lib.hid (by rw [hD.out]; exact HS1.out (by rw [HP.out]; simp [hix]))
            clear hix
            go_wp2_with fail
            go_roundw
            case rel => first | exact ⟨i + 1, by omega, by omega, by go_num, hBx, HD2⟩ | ((repeat apply Exists.intro); exact ⟨⟨i + 1, by omega, by omega, by go_num, hBx, HD2⟩, rfl⟩)
            case measure => (simp [intOf] <;> omega)
          · have q1 : ((i : Int) != (x : Int)) = true := by simp; omega
            have hix2 : decide (x ≠ i) = true := by simpa using hix
            rw [hix2] at HP
            have hSw := HSIS.out.below hBx.out.below
            have hFw := HFIS.out.below hBx.out.below
            have HCS := Lib.hid (rhas_any a0 n0 k0 S (i : Int) wr hSw (s.testBit i) (HMS.out.bit hlt))
            have HCF := Lib.hid (rhas_any b0 m0 j0 F (i : Int) wr hFw (z.testBit i) (HMF.out.bit hlt))
            clear hix hix2 hSw hFw
            cases hsi : s.testBit i with
            | true =>
              rw [hsi] at HCS HP
              have HD2 : Hid (dfs (kpPP R C s z x) (kpGG R C s z x) ((List.range N).drop ((y + 1))) M b = dfs (kpPP R C s z x) (kpGG R C s z x) ((List.range N).drop (i + 1)) M b) := Lib.hid (by rw [hD.out]; exact HS1.out (by rw [HP.out]; rfl))
              clear hsi
              go_wp2_with fail
              refine HCS.out.mono ?_
              rintro e w2 ⟨rfl, rfl⟩
              go_wp2_with fail
              go_roundw
              case rel => first | exact ⟨i + 1, by omega, by omega, by go_num, hBx, HD2⟩ | ((repeat apply Exists.intro); exact ⟨⟨i + 1, by omega, by omega, by go_num, hBx, HD2⟩, rfl⟩)
              case measure => (simp [intOf] <;> omega)
            | false =>
              rw [hsi] at HCS HP
              cases hzi : z.testBit i with
              | true =>
                rw [hzi] at HCF HP
                have HD2 : Hid (dfs (kpPP R C s z x) (kpGG R C s z x) ((List.range N).drop ((y + 1))) M b = dfs (kpPP R C s z x) (kpGG R C s z x) ((List.range N).drop (i + 1)) M b) := Lib.hid (by rw [hD.out]; exact HS1.out (by rw [HP.out]; rfl))
                clear hsi hzi
                go_wp2_with fail
                refine HCS.out.mono ?_
                rintro e w2 ⟨rfl, rfl⟩
                go_wp2_with fail
                refine HCF.out.mono ?_
                rintro e w2 ⟨rfl, rfl⟩
                go_wp2_with fail
                go_roundw
                case rel => first | exact ⟨i + 1, by omega, by omega, by go_num, hBx, HD2⟩ | ((repeat apply Exists.intro); exact ⟨⟨i + 1, by omega, by omega, by go_num, hBx, HD2⟩, rfl⟩)
                case measure => (simp [intOf] <;> omega)
              | false =>
                rw [hzi] at HCF HP
                clear hsi hzi
                go_wp2_with fail
                refine HCS.out.mono ?_
                rintro e w2 ⟨rfl, rfl⟩
                go_wp2_with fail
                refine HCF.out.mono ?_
                rintro e w2 ⟨rfl, rfl⟩
                have HIB : Hid (∀ a c w', GoodW wr w' → IsL w' a ((p + 1) + 1) c (li (b ++ [i])) → Calls Tryd.prog 74 #[stV R C a0 b0 n0 k0 m0 j0, .int .i64 (x : Int), .slice a ((p + 1) + 1) c, .int .i64 (m : Int)] w' fun e w2 => ∃ a n c B, e = .returned (.tuple #[.slice a n c, .bool B]) ∧ GoodW wr w2 ∧ ((dfs (kpPP R C s z x) (kpGG R C s z x) ((List.range N).drop (i + 1)) m (b ++ [i]) = none ∧ B = false) ∨ ∃ l, dfs (kpPP R C s z x) (kpGG R C s z x) ((List.range N).drop (i + 1)) m (b ++ [i]) = some l ∧ B = true ∧ IsL w2 a n c (li l))) := Lib.hid fun a c w' hg h => by
                  have := HIH.out (b ++ [i]) a ((p + 1) + 1) c w' (by rw [List.length_append, HLB.out]; simp; omega) (HOB.out i hlt hfi) ((HSIS.out.below hBx.out.below).below hg) ((HFIS.out.below hBx.out.below).below hg) h
                  rw [frm_snoc] at this
                  exact this.mono fun _ _ ⟨a, n, c, B, he, hb, ho⟩ => ⟨a, n, c, B, he, GoodW.to hg hb, ho⟩
                have HY1 := Lib.hid (fun l => HDY.out i l hlt)
                have HX1 := Lib.hid (HDX.out i hlt)
                obtain ⟨O, hO⟩ : ∃ O, dfs (kpPP R C s z x) (kpGG R C s z x) ((List.range N).drop (i + 1)) m (b ++ [i]) = O := ⟨_, rfl⟩
                rw [hO] at HIB HY1 HX1
                have HLI : Hid (li (b ++ [i]) = li b ++ [(i : Int)]) := Lib.hid (by rw [li_app]; rfl)
                have l0 : w.heap.size < wr.heap.size := hBx.out.box.lt
                have HBd := Lib.hid ((HBIS.out.below hBx.out.below).drew)
                have LA : Hid (OwnL (wr.drew.alloc (.cells #[] 3)) 3 wr.heap.size (some ⟨wr.heap.size, 0, none⟩) 0 0 []) := Lib.hid (own_lit wr.drew 3 wr.heap.size (Nat.le_refl _) ([] : List Int) #[] 0 rfl rfl (by decide))
                have LC : Hid (OwnL ((wr.drew.alloc (.cells #[.int .i64 (i : Int)] 3)).alloc (.cells #[] 3)) 3 wr.heap.size (some ⟨wr.heap.size + 1, 0, none⟩) 0 0 []) := Lib.hid (by have := own_lit (wr.drew.alloc (.cells #[.int .i64 (i : Int)] 3)) 3 wr.heap.size (by simp) ([] : List Int) #[] 0 rfl rfl (by decide); rw [World.size_alloc] at this; exact this)
                have Q1 : Hid (Below wr.heap.size wr (wr.drew.alloc (.cells #[] 3))) := Lib.hid ((Below.refl _ _).drew.alloc (Nat.le_refl _) _)
                have Q2 : Hid (Below wr.heap.size wr ((wr.drew.alloc (.cells #[] 3)).alloc (.cells #[.int .i64 (i : Int)] 3))) := Lib.hid (Q1.out.alloc (by simp) _)
                have Q3 : Hid (Below wr.heap.size wr ((wr.drew.alloc (.cells #[.int .i64 (i : Int)] 3)).alloc (.cells #[] 3))) := Lib.hid (((Below.refl _ _).drew.alloc (Nat.le_refl _) _).alloc (by simp) _)
                have I2 : Hid (IsL ((wr.drew.alloc (.cells #[] 3)).alloc (.cells #[.int .i64 (i : Int)] 3)) (some ⟨wr.heap.size + 1, 0, none⟩) 1 1 [(i : Int)]) := Lib.hid (by have := isL_one (wr.drew.alloc (.cells #[] 3)) (i : Int) 3; rw [World.size_alloc] at this; exact this)
                have I3 : Hid (IsL ((wr.drew.alloc (.cells #[.int .i64 (i : Int)] 3)).alloc (.cells #[] 3)) (some ⟨wr.heap.size, 0, none⟩) 1 1 [(i : Int)]) := Lib.hid ((isL_one wr.drew _ _).alloc _)
                have HX0 := Lib.hid x0
                have HX1' := Lib.hid x1
                have HX2' := Lib.hid x2
                have HX3' := Lib.hid x3
                clear hO HCS HCF HS1
                go_wp2_with fail
                go_region_held3 (fun w' => w'.cell? ⟨w.heap.size, 0, none⟩ = some (.int .i64 (R : Int)) ∧ w'.cell? ⟨w.heap.size, 1, none⟩ = some (.int .i64 (C : Int)) ∧ w'.cell? ⟨w.heap.size, 2, none⟩ = some (.slice a0 n0 k0) ∧ w'.cell? ⟨w.heap.size, 3, none⟩ = some (.slice b0 m0 j0)) (first | go_keep | exact ⟨v0, v1, v2, v3⟩ | exact ⟨u0, u1, u2, u3⟩ | exact ⟨z0, z1, z2, z3⟩ | (refine ⟨?_, ?_, ?_, ?_⟩ <;> go_simp))
                  (first
                    | ((go_at_call 74; with_reducible refine (HIB.out _ _ _ hG5 HI5.out).mono ?_); (rintro e w7 ⟨a7, n7, c7, B7, rfl, hG, hor⟩; have v0 := hG.cell HX0.out; have v1 := hG.cell HX1'.out; have v2 := hG.cell HX2'.out; have v3 := hG.cell HX3'.out))
                    | (refine step_app_own Tryd.underlying22 elem3 wr.heap.size (.tmp 74) (.tmp 76) (by rfl) (by rfl) (by rfl) (by rfl) (by first | exact ho6 | exact ho6.alloc _ | exact ho4 | exact ho4.alloc _) (by first | exact isL_one _ _ _ | exact I2.out.grown hg4 (by intro x y hx hy; cases hx; cases hy; simp) | exact I3.out.grown hg4 (by intro x y hx hy; cases hx; cases hy; simp)) (by first | exact hG4.size | exact Nat.le_trans hG4.size (by simp)) (by omega) ?_; (intro a5 c5 w5 ho5 hg5 hb5 _; have hG5 : GoodW wr w5 := (by first | exact Below.trans hG4 hb5 | exact Below.trans (Below.alloc hG4 hG4.size _) hb5); have HI5 : Hid (IsL w5 a5 ((p + 1) + 1) c5 (li (b ++ [i]))) := Lib.hid (by rw [HLI.out]; have := ho5.isL; simpa using this); have u0 := hG5.cell HX0.out; have u1 := hG5.cell HX1'.out; have u2 := hG5.cell HX2'.out; have u3 := hG5.cell HX3'.out; have l5 : w.heap.size < w5.heap.size := World.block_lt_of_cell? _ _ u0))
                    | (refine step_app_own Tryd.underlying22 elem3 wr.heap.size (.tmp 72) (.tmp 73) (by rfl) (by rfl) (by rfl) (by rfl) (by first | exact LA.out | exact LA.out.alloc _ | exact LC.out) (by first | exact HBd.out.alloc _ | exact (HBd.out.alloc _).alloc _) (by first | (simp; done) | (simp; omega)) (by omega) ?_; (intro a4 c4 w4 ho4 hg4 hb4 _; have ho6 : OwnL w4 3 wr.heap.size a4 ((p + 1)) c4 (li b) := (by simpa using ho4); have hG4 : GoodW wr w4 := (by first | exact Below.trans Q1.out hb4 | exact Below.trans Q2.out hb4 | exact Below.trans Q3.out hb4); have z0 := hG4.cell HX0.out; have z1 := hG4.cell HX1'.out; have z2 := hG4.cell HX2'.out; have z3 := hG4.cell HX3'.out; have l4 : w.heap.size < w4.heap.size := World.block_lt_of_cell? _ _ z0)))
                all_goals
                  have HB7 := Lib.hid (hBx.out.to hG)
                  rcases hor with ⟨hO, rfl⟩ | ⟨l, hO, rfl, hI⟩
                  · have HD2 : Hid (dfs (kpPP R C s z x) (kpGG R C s z x) ((List.range N).drop ((y + 1))) M b = dfs (kpPP R C s z x) (kpGG R C s z x) ((List.range N).drop (i + 1)) M b) := Lib.hid (by rw [hD.out]; exact HX1.out (by rw [HP.out]; rfl) hO)
                    go_wp2_with fail
                    go_roundw
                    case rel => first | exact ⟨i + 1, by omega, by omega, by go_num, HB7, HD2⟩ | ((repeat apply Exists.intro); exact ⟨⟨i + 1, by omega, by omega, by go_num, HB7, HD2⟩, rfl⟩)
                    case measure => (simp [intOf] <;> omega)
                  · have HD2 : Hid (dfs (kpPP R C s z x) (kpGG R C s z x) ((List.range N).drop ((y + 1))) M b = some l) := Lib.hid (by rw [hD.out]; exact HY1.out l (by rw [HP.out]; rfl) hO)
                    have HI7 := Lib.hid hI
                    clear hI
                    go_wp2_with fail
                    go_ret2
                    exact ⟨_, _, _, _, rfl, HB7.out.below, Or.inr ⟨l, HD2.out, rfl, HI7.out⟩⟩
        · obtain rfl : N = i := by omega
          go_wp2_with fail
          go_ret2
          exact ⟨_, _, _, _, rfl, hBx.out.below, Or.inl ⟨by rw [hD.out]; exact HDE.out, rfl⟩⟩
end Go.Proofs.YtbhjphcomppjgaaDoor
