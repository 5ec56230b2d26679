/- Walks of chapter 9: from how few bales a whole store is reached. -/
import Derived.Test.YtbhjphcomppjgaaDoorWm
import Derived.Test.YtbhjphcomppjgaaDoorPl
namespace Beetle09
theorem outl_le {R C q : Nat} (h25 : R * C ≤ 25) (hq : q < 2 ^ (R * C)) : 0 ≤ outl R C q ∧ outl R C q ≤ 100 := by
  rw [← outl_els h25 hq]
  have h1 := outlL_bd R C q (els 25 q)
  have h2 := pcN_le 25 q
  rw [els_len] at h1
  omega
end Beetle09
namespace Go.Proofs.YtbhjphcomppjgaaDoor
open Go.RowKit Beetle09

set_option maxHeartbeats 4000000 in
set_option maxRecDepth 100000 in
theorem more_any (g R C p8 p2 p3 q m : Nat) (w : World) (hT : Tab w) (hs : Sd R C) (hF : Flr w g R C (nearN C (R * C))) (c8 : w.cell? ⟨p8, 0, none⟩ = some (.pointer (some ⟨g, 0, none⟩))) (c2 : w.cell? ⟨p2, 0, none⟩ = some (.int .i64 (R : Int))) (c3 : w.cell? ⟨p3, 0, none⟩ = some (.int .i64 (C : Int))) (hq : q < 2 ^ (R * C)) (hm : m ≤ 5) :
    Calls Tryd.prog 68 #[.int .u32 (q : Int), .int .i64 (m : Int), .pointer (some ⟨p8, 0, none⟩), .pointer (some ⟨p2, 0, none⟩), .pointer (some ⟨p3, 0, none⟩)] w fun e w' => e = .returned (.bool (plP R C q m)) ∧ Below w.heap.size w w' := by
  have ho := outl_le hs.n25 hq
  have hR := hs.r5
  have hC := hs.c5
  have H69 : Hid (∀ w', GoodW w w' → Calls Tryd.prog 69 #[.pointer (some ⟨g, 0, none⟩), .int .u32 (q : Int)] w' fun e w2 => e = .returned (.int .i64 (outl R C q)) ∧ GoodW w w2) := Lib.hid fun w' h => (outline_any g R C q w' (hT.to h) hs (ArrV.below hF h) hq).mono fun _ _ ⟨he, hb⟩ => ⟨he, h.to hb⟩
  have HP : Hid (plP R C q m = decide (2 * ((R : Int) + C) ≤ outl R C q + 4 * m)) := Lib.hid rfl
  obtain ⟨o, hoo⟩ : ∃ o, outl R C q = o := ⟨_, rfl⟩
  rw [hoo] at H69 ho HP
  obtain ⟨B, hB⟩ : ∃ B, decide (2 * ((R : Int) + C) ≤ o + 4 * (m : Int)) = B := ⟨_, rfl⟩
  rw [hB] at HP
  obtain ⟨ho1, ho2⟩ := ho
  have f1 : IntKind.i64.wrap (4 * (m : Int)) = 4 * (m : Int) := IntWalk.i64_in _ (by omega)
  have f2 : IntKind.i64.wrap (o + 4 * (m : Int)) = o + 4 * (m : Int) := IntWalk.i64_in _ (by omega)
  have f3 : IntKind.i64.wrap ((R : Int) + (C : Int)) = (R : Int) + (C : Int) := IntWalk.i64_in _ (by omega)
  have f4 : IntKind.i64.wrap (2 * ((R : Int) + (C : Int))) = 2 * ((R : Int) + (C : Int)) := IntWalk.i64_in _ (by omega)
  have HG0 : GoodW w w.drew := (Below.refl _ _).drew
  clear hT hs hF hq hoo
  go_enter Tryd.func68, Tryd.ntmps68
  go_wp2_with fail
  go_region_held3 (fun w' => w'.cell? ⟨p8, 0, none⟩ = some (.pointer (some ⟨g, 0, none⟩)) ∧ w'.cell? ⟨p2, 0, none⟩ = some (.int .i64 (R : Int)) ∧ w'.cell? ⟨p3, 0, none⟩ = some (.int .i64 (C : Int))) (first | go_keep | exact ⟨hG.cell c8, hG.cell c2, hG.cell c3⟩)
    ((go_at_call 69; with_reducible refine (H69.out _ ?_).mono ?_; assumption; rintro e w5 ⟨rfl, hG⟩))
  go_wp2
  go_ret
  exact ⟨ret_b (by rw [HP.out]), hG⟩
set_option maxHeartbeats 4000000 in
set_option maxRecDepth 100000 in
theorem good_any (g R C p8 p9 q : Nat) (w : World) (hT : Tab w) (hs : Sd R C) (hF : Flr w g R C (nearN C (R * C))) (c8 : w.cell? ⟨p8, 0, none⟩ = some (.pointer (some ⟨g, 0, none⟩))) (c9 : w.cell? ⟨p9, 0, none⟩ = some (.int .u32 ((allS R C : Nat) : Int))) (hq : q < 2 ^ (R * C)) :
    Calls Tryd.prog 70 #[.int .u32 (q : Int), .pointer (some ⟨p8, 0, none⟩), .pointer (some ⟨p9, 0, none⟩)] w fun e w' => e = .returned (.bool (plG R C q)) ∧ Below w.heap.size w w' := by
  have H54 : Hid (∀ w', GoodW w w' → Calls Tryd.prog 54 #[.pointer (some ⟨g, 0, none⟩), .agg #[.int .u32 (q : Int), .int .u32 0]] w' fun e w2 => e = .returned (.int .u32 ((fin R C 0 q : Nat) : Int)) ∧ GoodW w w2) := Lib.hid fun w' h => (spread_any g R C q 0 w' (hT.to h) hs (ArrV.below hF h) hq (Nat.two_pow_pos _)).mono fun _ _ ⟨he, hb⟩ => ⟨he, h.to hb⟩
  have HP : Hid (plG R C q = decide (fin R C 0 q = allS R C)) := Lib.hid rfl
  obtain ⟨o, hoo⟩ : ∃ o, fin R C 0 q = o := ⟨_, rfl⟩
  obtain ⟨al, hal⟩ : ∃ al, allS R C = al := ⟨_, rfl⟩
  rw [hoo] at H54 HP
  rw [hal] at HP c9
  obtain ⟨B, hB⟩ : ∃ B, ((o : Int) == (al : Int)) = B := ⟨_, rfl⟩
  have HPB : Hid (plG R C q = B) := Lib.hid (by
    rw [HP.out, ← hB, Bool.eq_iff_iff, decide_eq_true_eq, beq_iff_eq]; omega)
  have HG0 : GoodW w w.drew := (Below.refl _ _).drew
  clear hT hs hF hq hoo hal HP
  go_enter Tryd.func70, Tryd.ntmps70
  go_wp2_with fail
  go_region_held3 (fun w' => w'.cell? ⟨p8, 0, none⟩ = some (.pointer (some ⟨g, 0, none⟩)) ∧ w'.cell? ⟨p9, 0, none⟩ = some (.int .u32 (al : Int))) (first | go_keep | exact ⟨hG.cell c8, hG.cell c9⟩)
    ((go_at_call 54; with_reducible refine (H54.out _ ?_).mono ?_; assumption; rintro e w5 ⟨rfl, hG⟩))
  go_wp2
  go_ret
  exact ⟨ret_b (by rw [HPB.out]), hG⟩
set_option maxHeartbeats 8000000 in
set_option maxRecDepth 100000 in
theorem Plant_any (r c : Int) (w : World) (hT : Tab w) : Calls Tryd.prog 28 #[.int .i64 r, .int .i64 c] w (LP (if sdB r c = true then 0 else 1) (plantE r c) w) := by
  have HLS := Lib.hid (fun w => Least_any r c w)
  have hal2 : Below w.heap.size w ((w.alloc (.cells #[.int .i64 r] 3)).alloc (.cells #[.int .i64 c] 3)) := ((Below.refl _ _).alloc (Nat.le_refl _) _).alloc (by simp) _
  obtain ⟨B, hB⟩ : ∃ B, sdB r c = B := ⟨_, rfl⟩
  rw [hB] at HLS ⊢
  cases B with
  | false =>
    have HE : Hid (plantE r c = []) := Lib.hid (by rw [plantE, if_neg (by rw [hB]; simp)])
    rw [if_neg (by simp), if_neg (by simp)] at HLS
    rw [if_neg (by simp)]
    clear hB
    go_enter Tryd.func28, Tryd.ntmps28
    go_wp2_with fail
    refine (HLS.out _).mono ?_
    rintro e w1 ⟨rfl, rfl⟩
    go_wp2_with fail
    go_ret2
    exact LP.nil rfl HE.out hal2
  | true =>
    obtain ⟨R, C, rfl, rfl, hs⟩ := sdB_sd hB
    rw [if_pos rfl, if_pos rfl] at HLS
    rw [if_pos rfl]
    have HSD := Lib.hid hs
    have HE : Hid (plantE R C = li (plL R C)) := Lib.hid (by rw [plantE, if_pos hB]; rfl)
    obtain ⟨ml, hml⟩ : ∃ ml, leastN R C = ml := ⟨_, rfl⟩
    have hm5 : ml ≤ 5 := by rw [← hml]; exact leastN_le hs
    have hmi : ((R : Int) + (C : Int) + 1) / 2 = (ml : Int) := by rw [← hml]; unfold leastN; omega
    rw [hmi] at HLS
    have HML := Lib.hid hml
    have HT2 := Lib.hid (hT.to hal2)
    have HLD := Lib.hid (fun w => laid_any R C w hs)
    have hn25 := hs.n25
    clear hB hs hml hmi
    go_enter Tryd.func28, Tryd.ntmps28
    go_wp2_with fail
    refine (HLS.out _).mono ?_
    rintro e w1 ⟨rfl, rfl⟩
    go_wp2_with fail
    refine (HLD.out _).mono ?_
    rintro e w1 ⟨g, rfl, hg, hfl, b1⟩
    have hz2 := hal2.size
    have hz1 := b1.size
    simp only [World.size_alloc] at hz1 hg
    have b0 : Below w.heap.size w w1 := hal2.trans (b1.mono hz2)
    obtain ⟨N, hN⟩ : ∃ N, R * C = N := ⟨_, rfl⟩
    have HN := Lib.hid hN
    have hgl := hfl.lt
    have ba : Below w1.heap.size w1 (w1.alloc (.cells #[.pointer (some ⟨g, 0, none⟩)] 76)) := (Below.refl _ _).alloc (Nat.le_refl _) _
    have xb := Flr.bales (R := R) (C := C) (ArrV.below hfl ba)
    rw [hN] at xb hn25
    obtain ⟨V, hV⟩ : ∃ V, 2 ^ N = V := ⟨_, rfl⟩
    have hV25 : V ≤ 33554432 := by rw [← hV]; exact Nat.le_trans (Nat.pow_le_pow_right (by omega) hn25) (by decide)
    have hV0 : 0 < V := by rw [← hV]; exact Nat.two_pow_pos _
    have e1 : (2 : Int) ^ N = (V : Int) := by rw [← hV, Int.natCast_pow]; rfl
    have e2 : IntKind.u32.wrap (V : Int) = (V : Int) := by rw [wrap_u32']; omega
    have e3 : (V : Int) % 4294967296 = (V : Int) := by omega
    obtain ⟨al, hal⟩ : ∃ al, allS R C = al := ⟨_, rfl⟩
    have hval : V - 1 = al := by rw [← hal, allS, hN, hV]
    have e4 : IntKind.u32.wrap ((V : Int) - 1) = (al : Int) := by rw [wrap_u32']; omega
    have e5 : ((V : Int) - 1) % 4294967296 = (al : Int) := by omega
    have ba2 : Below w1.heap.size w1 ((w1.alloc (.cells #[.pointer (some ⟨g, 0, none⟩)] 76)).alloc (.cells #[.int .u32 (al : Int)] 77)) := ba.alloc (by simp) _
    have A8 := ArrV.alloc (ArrV.new (f := VV) w1 #[.pointer (some ⟨g, 0, none⟩)] 76 [.pointer (some ⟨g, 0, none⟩)] _ rfl rfl) (.cells #[.int .u32 (al : Int)] 77)
    have A9 := ArrV.new (f := VV) (w1.alloc (.cells #[.pointer (some ⟨g, 0, none⟩)] 76)) #[.int .u32 (al : Int)] 77 [.int .u32 (al : Int)] (w1.heap.size + 1) (by simp) rfl
    have A2 := ArrV.below (ArrV.below ((ArrV.new (f := VV) w #[.int .i64 (R : Int)] 3 [.int .i64 (R : Int)] _ rfl rfl).alloc (.cells #[.int .i64 (C : Int)] 3)) b1) ba2
    have A3 := ArrV.below (ArrV.below (ArrV.new (f := VV) (w.alloc (.cells #[.int .i64 (R : Int)] 3)) #[.int .i64 (C : Int)] 3 [.int .i64 (C : Int)] (w.heap.size + 1) (by simp) rfl) b1) ba2
    have hfl2 := ArrV.below hfl ba2
    have hT3 := (HT2.out.to b1).to ba2
    have k3 : Below w.heap.size w ((w1.alloc (.cells #[.pointer (some ⟨g, 0, none⟩)] 76)).alloc (.cells #[.int .u32 (al : Int)] 77)) := b0.trans (ba2.mono (by omega))
    obtain ⟨W, hW⟩ : ∃ W, ((w1.alloc (.cells #[.pointer (some ⟨g, 0, none⟩)] 76)).alloc (.cells #[.int .u32 (al : Int)] 77)) = W := ⟨_, rfl⟩
    rw [hW] at A8 A9 A2 A3 hfl2 hT3 k3
    have hall : al < 2 ^ (R * C) := by rw [← hal]; exact allS_lt R C
    have HCH := choose_any 68 70 #[.pointer (some ⟨w1.heap.size, 0, none⟩), .pointer (some ⟨w.heap.size, 0, none⟩), .pointer (some ⟨w.heap.size + 1, 0, none⟩)] #[.pointer (some ⟨w1.heap.size, 0, none⟩), .pointer (some ⟨w1.heap.size + 1, 0, none⟩)] (plP R C) (plG R C) W (R * C) (by rw [hN]; exact hn25) (fun _ _ => rfl) (fun _ _ => rfl) hT3
      (Lib.hid fun q mm w' hq hmm h => more_any g R C _ _ _ q mm w' (hT3.to h) HSD.out (ArrV.below hfl2 h) (h.cell (val A8 0 rfl)) (h.cell (val A2 0 rfl)) (h.cell (val A3 0 rfl)) hq hmm)
      (Lib.hid fun q w' hq h => good_any g R C _ _ q w' (hT3.to h) HSD.out (ArrV.below hfl2 h) (h.cell (val A8 0 rfl)) (h.cell (by rw [hal]; exact val A9 0 rfl)) hq)
      ml [] al W hm5 (fun i hi => by simp at hi) hall (Below.refl _ _)
    have hdf : dfs (dP (plP R C)) (dG (plG R C)) (els 25 al) ml [] = plD R C := by
      unfold plD
      rw [HML.out, ← hal, els_top (allS_lt R C) (by rw [hN]; exact hn25)]
    have HDF := Lib.hid hdf
    have HCC := Lib.hid HCH
    have HWW := Lib.hid hW
    have HT3 := Lib.hid hT3
    have HPL := Lib.hid (plL_ok HSD.out)
    have hkz := k3.size
    clear HCH hdf hW hT3 hall hval hal hV hN A8 A9 A2 A3 hfl2 hfl ba ba2 b0 HT2 hT hal2 b1
    go_wp2_with fail
    rw [HWW.out]
    refine HCC.out.mono ?_
    rintro e w4 ⟨b4, hor⟩
    have k4 := k3.trans (b4.mono hkz)
    have HT4 := Lib.hid (HT3.out.to b4)
    have hkz4 := k4.size
    clear HCC HWW b4
    rcases hor with ⟨l, hl, rfl⟩ | ⟨hl, _⟩
    · have hll : l = plL R C := by rw [HDF.out, HPL.out.1] at hl; exact (Option.some.inj hl).symm
      have hsub := HPL.out.2.1
      rw [← hll] at hsub
      have h3 := sub_setL hsub
      have hq25 : setL l < 2 ^ 25 := lt25 h3.2.1 (by rw [HN.out]; exact hn25)
      have HF : Hid (plantE R C = li (els 25 (setL l))) := Lib.hid (by rw [HE.out, ← hll, els_top h3.2.1 (by rw [HN.out]; exact hn25), h3.2.2])
      obtain ⟨q, hq⟩ : ∃ q, setL l = q := ⟨_, rfl⟩
      rw [hq] at hq25 HF ⊢
      have HQ := Lib.hid hq25
      clear hq hq25 h3 hsub hll hl
      go_wp2_with fail
      refine (list_of q _ HT4.out HQ.out).mono ?_
      rintro e w5 ⟨a5, c5, rfl, hO, b5⟩
      go_wp2_with fail
      go_ret2
      exact LP.ok rfl HF.out hO.isL (k4.trans (b5.mono hkz4))
    · rw [HDF.out, HPL.out.1] at hl; cases hl
end Go.Proofs.YtbhjphcomppjgaaDoor
