/- Walks of chapter 9: which bales have to be frozen to save one. -/
import Derived.Test.YtbhjphcomppjgaaDoorWn
import Derived.Test.YtbhjphcomppjgaaDoorPm
namespace Go.Proofs.YtbhjphcomppjgaaDoor
open Go.RowKit Beetle09

theorem true_any (q m : Nat) (w : World) : Calls Tryd.prog 72 #[.int .u32 (q : Int), .int .i64 (m : Int)] w fun e w' => e = .returned (.bool true) ∧ Below w.heap.size w w' := by
  go_enter Tryd.func72, Tryd.ntmps72
  go_wp2
  go_ret
  exact ⟨rfl, Below.refl _ _⟩
set_option maxHeartbeats 4000000 in
set_option maxRecDepth 100000 in
theorem save_any (g R C p6 p7 p3 q s z x : Nat) (w : World) (hT : Tab w) (hs : Sd R C) (hF : Flr w g R C (nearN C (R * C))) (c6 : w.cell? ⟨p6, 0, none⟩ = some (.pointer (some ⟨g, 0, none⟩))) (c7 : w.cell? ⟨p7, 0, none⟩ = some (.int .u32 (s : Int))) (c7' : w.cell? ⟨p7, 1, none⟩ = some (.int .u32 (z : Int))) (c3 : w.cell? ⟨p3, 0, none⟩ = some (.int .i64 (x : Int)))
    (hs2 : s < 2 ^ (R * C)) (hz : z < 2 ^ (R * C)) (hq : q < 2 ^ (R * C)) (hx : x < 25) :
    Calls Tryd.prog 73 #[.int .u32 (q : Int), .pointer (some ⟨p6, 0, none⟩), .pointer (some ⟨p7, 0, none⟩), .pointer (some ⟨p3, 0, none⟩)] w fun e w' => e = .returned (.bool (kpG R C s z x q)) ∧ Below w.heap.size w w' := by
  have h25 := hs.n25
  have hzq : z ||| q < 2 ^ (R * C) := Nat.or_lt_two_pow hz hq
  have hz32 : z < 4294967296 := Nat.lt_of_lt_of_le (lt25 hz h25) (by decide)
  have hq32 : q < 4294967296 := Nat.lt_of_lt_of_le (lt25 hq h25) (by decide)
  have HP : Hid (kpG R C s z x q = !(fin R C (z ||| q) s).testBit x) := Lib.hid rfl
  obtain ⟨y, hy⟩ : ∃ y, z ||| q = y := ⟨_, rfl⟩
  have f1 : bits .or .u32 (z : Int) (q : Int) = (y : Int) := by rw [u32_or_nat z q hz32 hq32, hy]
  rw [hy] at HP hzq
  have H54 : Hid (∀ w', GoodW w w' → Calls Tryd.prog 54 #[.pointer (some ⟨g, 0, none⟩), .agg #[.int .u32 (s : Int), .int .u32 (y : Int)]] w' fun e w2 => e = .returned (.int .u32 ((fin R C y s : Nat) : Int)) ∧ GoodW w w2) := Lib.hid fun w' h => (spread_any g R C s y w' (hT.to h) hs (ArrV.below hF h) hs2 hzq).mono fun _ _ ⟨he, hb⟩ => ⟨he, h.to hb⟩
  have hf32 : fin R C y s < 4294967296 := Nat.lt_of_lt_of_le (lt25 (fin_lt hs2) h25) (by decide)
  obtain ⟨o, hoo⟩ : ∃ o, fin R C y s = o := ⟨_, rfl⟩
  rw [hoo] at H54 HP hf32
  obtain ⟨B, hB⟩ : ∃ B, o.testBit x = B := ⟨_, rfl⟩
  rw [hB] at HP
  have H56 : Hid (∀ w', GoodW w w' → Calls Tryd.prog 56 #[.int .u32 (o : Int), .int .i64 (x : Int)] w' fun e w2 => e = .returned (.bool B) ∧ GoodW w w2) := Lib.hid fun w' h => (has_any o x w' hf32 hx B hB).mono fun _ _ ⟨he, hb⟩ => ⟨he, hb ▸ h⟩
  have HG0 : GoodW w w.drew := (Below.refl _ _).drew
  clear hT hs hF hq hoo hB hy hzq
  go_enter Tryd.func73, Tryd.ntmps73
  go_wp2_with fail
  go_region_held3 (fun w' => w'.cell? ⟨p6, 0, none⟩ = some (.pointer (some ⟨g, 0, none⟩)) ∧ w'.cell? ⟨p7, 0, none⟩ = some (.int .u32 (s : Int)) ∧ w'.cell? ⟨p7, 1, none⟩ = some (.int .u32 (z : Int)) ∧ w'.cell? ⟨p3, 0, none⟩ = some (.int .i64 (x : Int))) (first | go_keep | exact ⟨hG.cell c6, hG.cell c7, hG.cell c7', hG.cell c3⟩)
    (first
      | ((go_at_call 54; with_reducible refine (H54.out _ ?_).mono ?_; assumption; rintro e w5 ⟨rfl, hG⟩))
      | ((go_at_call 56; with_reducible refine (H56.out _ ?_).mono ?_; assumption; rintro e w5 ⟨rfl, hG⟩)))
  go_wp2
  go_ret
  exact ⟨ret_b (by rw [HP.out]), hG⟩
theorem kchoose (g R C p6 p7 p3 s z v fr : Nat) (wb : World) (hT : Tab wb) (hs : Sd R C) (hF : Flr wb g R C (nearN C (R * C))) (c6 : wb.cell? ⟨p6, 0, none⟩ = some (.pointer (some ⟨g, 0, none⟩))) (c7 : wb.cell? ⟨p7, 0, none⟩ = some (.int .u32 (s : Int))) (c7' : wb.cell? ⟨p7, 1, none⟩ = some (.int .u32 (z : Int))) (c3 : wb.cell? ⟨p3, 0, none⟩ = some (.int .i64 (v : Int)))
    (hs2 : s < 2 ^ (R * C)) (hz : z < 2 ^ (R * C)) (hv : v < 25) (hfr : fr < 2 ^ (R * C)) (m : Nat) (w : World) (hm : m ≤ 5) (hw : GoodW wb w) :
    Calls Tryd.prog 67 #[.int .u32 0, .int .u32 (fr : Int), .int .i64 (m : Int), .func (.func 72) #[] #[], .func (.func 73) #[] #[.pointer (some ⟨p6, 0, none⟩), .pointer (some ⟨p7, 0, none⟩), .pointer (some ⟨p3, 0, none⟩)]] w (ChP (fun _ _ => true) (kpG R C s z v) (els 25 fr) m [] w) := by
  have h1 := Lib.hid (fun (q mm : Nat) (w' : World) (_ : q < 2 ^ (R * C)) (_ : mm ≤ 5) (_ : GoodW wb w') => true_any q mm w')
  have h2 := Lib.hid (fun (q : Nat) (w' : World) (hq : q < 2 ^ (R * C)) (h : GoodW wb w') => save_any g R C p6 p7 p3 q s z v w' (hT.to h) hs (ArrV.below hF h) (h.cell c6) (h.cell c7) (h.cell c7') (h.cell c3) hs2 hz hq hv)
  have h3 := choose_any 72 73 #[] #[.pointer (some ⟨p6, 0, none⟩), .pointer (some ⟨p7, 0, none⟩), .pointer (some ⟨p3, 0, none⟩)] (fun _ _ => true) (kpG R C s z v) wb (R * C) hs.n25 (fun _ _ => rfl) (fun _ _ => rfl) hT h1 h2 m [] fr w hm (fun i hi => by simp at hi) hfr hw
  exact h3
variable {r c : Int} {S F : List Int} {a b : Option Addr} {n m k j : Nat} {w : World}
set_option maxHeartbeats 8000000 in
set_option maxRecDepth 100000 in
theorem Keep_any (x : Int) (hS : IsL w a n k S) (hF : IsL w b m j F) (hT : Tab w) : Calls Tryd.prog 30 #[stV r c a b n k m j, .int .i64 x] w (LP (keepE r c S F x) (keepL r c S F x) w) := by
  have hal : Below w.heap.size w ((w.alloc (.cells #[.int .i64 r, .int .i64 c, .slice a n k, .slice b m j] 24)).alloc (.cells #[.int .i64 x] 3)) := ((Below.refl _ _).alloc (Nat.le_refl _) _).alloc (by simp) _
  have AX := ArrV.new (f := VV) (w.alloc (.cells #[.int .i64 r, .int .i64 c, .slice a n k, .slice b m j] 24)) #[.int .i64 x] 3 [.int .i64 x] (w.heap.size + 1) (by simp) rfl
  have HC := Lib.hid (opened_any r c S F a b n m k j _ (hS.below hal) (hF.below hal))
  have HT0 := Lib.hid (hT.to hal)
  obtain ⟨E, hE⟩ : ∃ E, openE r c S F = E := ⟨_, rfl⟩
  have HE := Lib.hid hE
  have HAX := Lib.hid AX
  clear hE hS hF hT AX
  go_enter Tryd.func30, Tryd.ntmps30
  go_wp2_with fail
  refine HC.out.mono ?_
  rintro e w1 ⟨b1, hor⟩
  have HT1 := Lib.hid (HT0.out.to b1)
  have k1 := hal.trans (b1.mono hal.size)
  have hs1 := hal.size
  have hb2 := b1.size
  simp only [World.size_alloc] at hb2
  have HAX1 := Lib.hid (HAX.out.below b1)
  rcases hor with ⟨h0, rfl⟩ | ⟨R, C, s, z, g, h0, hop, hg, hfl, rfl⟩
  · clear HC b1
    have t1 : (E != 0) = true := by rw [← HE.out]; simpa using h0
    have HK : Hid (keepE r c S F x = E) := Lib.hid (by rw [bad_keep h0, HE.out])
    have HK0 : Hid (keepE r c S F x ≠ 0) := Lib.hid (by rw [bad_keep h0]; exact h0)
    clear h0
    rw [HE.out]
    go_wp2_with fail
    go_ret2
    exact LP.nil HK.out (keepl_bad HK0.out) ((k1.alloc (by omega) _).alloc (by simp; omega) _)
  · clear HC b1
    obtain rfl : E = 0 := HE.out.symm.trans h0
    have hs25 := hop.s25
    have hz25 := hop.z25
    have HOP := Lib.hid hop
    have HK := Lib.hid (hop.keep h0 x)
    have HKL := Lib.hid (fun h => hop.keepl x h)
    have ba : Below w1.heap.size w1 ((w1.alloc (.cells #[.pointer (some ⟨g, 0, none⟩)] 76)).alloc (.cells #[.int .u32 (s : Int), .int .u32 (z : Int)] 79)) := ((Below.refl _ _).alloc (Nat.le_refl _) _).alloc (by simp) _
    have A6 := ArrV.alloc (ArrV.new (f := VV) w1 #[.pointer (some ⟨g, 0, none⟩)] 76 [.pointer (some ⟨g, 0, none⟩)] _ rfl rfl) (.cells #[.int .u32 (s : Int), .int .u32 (z : Int)] 79)
    have A7 := ArrV.new (f := VV) (w1.alloc (.cells #[.pointer (some ⟨g, 0, none⟩)] 76)) #[.int .u32 (s : Int), .int .u32 (z : Int)] 79 [.int .u32 (s : Int), .int .u32 (z : Int)] (w1.heap.size + 1) (by simp) rfl
    have HX2 := Lib.hid (HAX1.out.below ba)
    have HTA := Lib.hid (HT1.out.to ba)
    have HFA : Hid (Flr _ g R C (nearN C (R * C))) := Lib.hid (ArrV.below hfl ba)
    have kb := k1.trans (ba.mono (by omega))
    obtain ⟨wb, hwb⟩ : ∃ wb, wb = ((w1.alloc (.cells #[.pointer (some ⟨g, 0, none⟩)] 76)).alloc (.cells #[.int .u32 (s : Int), .int .u32 (z : Int)] 79)) := ⟨_, rfl⟩
    rw [← hwb] at A6 A7 HX2 HTA HFA kb
    have c6 := val A6 0 rfl
    have c7 := val A7 0 rfl
    have c7' := val A7 1 rfl
    have cx := val HX2.out 0 rfl
    have HZ6 := Lib.hid c6
    have HZ7 := Lib.hid c7
    have HZ8 := Lib.hid c7'
    have HZ3 := Lib.hid cx
    have xb := Flr.bales HFA.out
    have hn25 := HOP.out.sd.n25
    have hkb := kb.size
    obtain ⟨N, hN⟩ : ∃ N, R * C = N := ⟨_, rfl⟩
    have HN := Lib.hid hN
    rw [hN] at xb hn25 HK
    clear h0 hfl hop ba hN HT0 HT1 HAX HAX1 A6 A7
    by_cases hx0 : x < 0
    · have HKE : Hid (keepE r c S F x = 2) := Lib.hid (by rw [HK.out, if_pos (Or.inl hx0)])
      have d0 : decide (x < 0) = true := decide_eq_true hx0
      go_wp2_with fail
      rw [← hwb]
      clear hwb
      go_quiet (fail)
      go_wp2
      go_ret2
      exact LP.nil HKE.out (keepl_bad (by rw [HKE.out]; decide)) (belowN kb _)
    · obtain ⟨v, rfl⟩ : ∃ v : Nat, x = (v : Int) := ⟨x.toNat, by omega⟩
      have d0 : decide ((v : Int) < 0) = false := by simp
      by_cases hxN : N ≤ v
      · have HKE : Hid (keepE r c S F v = 2) := Lib.hid (by rw [HK.out, if_pos (Or.inr (by omega))])
        have d1 : decide ((N : Int) ≤ (v : Int)) = true := by simp; omega
        have d2 : decide (N ≤ v) = true := by simp; omega
        go_wp2_with fail
        rw [← hwb]
        clear hwb
        go_quiet (fail)
        go_wp2
        go_ret2
        exact LP.nil HKE.out (keepl_bad (by rw [HKE.out]; decide)) (belowN kb _)
      · have hvN : v < N := by omega
        have d1 : decide ((N : Int) ≤ (v : Int)) = false := by simp; omega
        have d2 : decide (N ≤ v) = false := by simp; omega
        have HKE : Hid (keepE r c S F v = if lostB R C s z v = true then 12 else 0) := Lib.hid (by rw [HK.out, if_neg (by omega), Int.toNat_natCast])
        go_wp2_with fail
        rw [← hwb]
        clear hwb
        go_quiet (fail)
        have HG2 : GoodW wb (wb.drewN nq) := belowN (Below.refl _ _) _
        obtain ⟨w2, hw2⟩ : ∃ w2, wb.drewN nq = w2 := ⟨_, rfl⟩
        rw [hw2] at HG2 ⊢
        clear hw2
        have c6 := HG2.cell c6
        have c7 := HG2.cell c7
        have c7' := HG2.cell c7'
        have cx := HG2.cell cx
        have xb := HG2.cell xb
        have hs32 : s < 4294967296 := Nat.lt_of_lt_of_le hs25 (by decide)
        have hz32 : z < 4294967296 := Nat.lt_of_lt_of_le hz25 (by decide)
        have hv25 : v < 25 := by omega
        have q1 : (v : Int) < 25 := by omega
        obtain ⟨kk, yy, cc, k1', k2', k3', k4', k5', k6', k7', k8'⟩ := near_facts HOP.out.sd (n := v) (by rw [HN.out]; exact hvN) s hs32
        have m0 := Flr.near (R := R) (C := C) (ArrV.below HFA.out HG2) v (by rw [nearN_len]; exact hv25)
        rw [k1'] at m0
        obtain ⟨B1, hB1⟩ : ∃ B, s.testBit v = B := ⟨_, rfl⟩
        obtain ⟨B2, hB2⟩ : ∃ B, z.testBit v = B := ⟨_, rfl⟩
        have HCs : Hid (∀ q, Calls Tryd.prog 56 #[.int .u32 (s : Int), .int .i64 (v : Int)] (w2.drewN q) fun e w' => e = .returned (.bool B1) ∧ w' = w2.drewN q) := Lib.hid fun q => (has_any s v _ hs32 hv25 B1 hB1).mono fun _ _ h => ⟨h.1, h.2.symm⟩
        have HCz : Hid (∀ q, Calls Tryd.prog 56 #[.int .u32 (z : Int), .int .i64 (v : Int)] (w2.drewN q) fun e w' => e = .returned (.bool B2) ∧ w' = w2.drewN q) := Lib.hid fun q => (has_any z v _ hz32 hv25 B2 hB2).mono fun _ _ h => ⟨h.1, h.2.symm⟩
        have HC3 := Lib.hid k8'
        have HLB : Hid (lostB R C s z v = (B1 || (!B2 && decide (2 ≤ cc)))) := Lib.hid (by unfold lostB; rw [hB1, hB2, k6'])
        have HBB1 := Lib.hid hB1
        clear hB1 hB2 k1' k3' k6' k8'

        cases B1 with
        | true =>
          have HKF : Hid (keepE r c S F v = 12) := Lib.hid (by rw [HKE.out, HLB.out]; simp; try omega)
          go_wp2_with fail
          go_quiet ((first | (go_at_call 56; exact Calls.quiet_of_same (HCs.out _)) | (go_at_call 56; exact Calls.quiet_of_same (HCz.out _)) | (go_at_call 61; exact Calls.quiet_of (HC3.out _))))
          go_wp2
          go_ret2
          exact LP.nil HKF.out (keepl_bad (by rw [HKF.out]; decide)) (belowN (kb.trans (HG2.mono hkb)) _)
        | false =>
          cases B2 with
          | true =>
            have HLF : Hid (lostB R C s z v = false) := Lib.hid (by rw [HLB.out]; simp; try omega)
            have HKF : Hid (keepE r c S F v = 0) := Lib.hid (by rw [HKE.out, HLF.out, if_neg (by simp)])
            go_wp2_with fail
            go_quiet ((first | (go_at_call 56; exact Calls.quiet_of_same (HCs.out _)) | (go_at_call 56; exact Calls.quiet_of_same (HCz.out _)) | (go_at_call 61; exact Calls.quiet_of (HC3.out _))))
            have HG3 : GoodW wb (w2.drewN nq) := HG2.to (belowN (Below.refl _ _) _)
            obtain ⟨w3, hw3⟩ : ∃ w3, w2.drewN nq = w3 := ⟨_, rfl⟩
            have hb23 : Below w2.heap.size w2 w3 := by rw [← hw3]; exact belowN (Below.refl _ _) _
            rw [hw3] at HG3 ⊢
            have c6 := GoodW.cell hb23 c6
            have c7 := GoodW.cell hb23 c7
            have c7' := GoodW.cell hb23 c7'
            have cx := GoodW.cell hb23 cx
            have xb := GoodW.cell hb23 xb
            clear hw3 hb23 m0
            obtain ⟨V, hV⟩ : ∃ V, 2 ^ N = V := ⟨_, rfl⟩
            have hV25 : V ≤ 33554432 := by rw [← hV]; exact Nat.le_trans (Nat.pow_le_pow_right (by omega) hn25) (by decide)
            have hV0 : 0 < V := by rw [← hV]; exact Nat.two_pow_pos _
            have e1 : (2 : Int) ^ N = (V : Int) := by rw [← hV, Int.natCast_pow]; rfl
            have e2 : IntKind.u32.wrap (V : Int) = (V : Int) := by rw [wrap_u32']; omega
            have e3 : (V : Int) % 4294967296 = (V : Int) := by omega
            obtain ⟨al, hal⟩ : ∃ al, allS R C = al := ⟨_, rfl⟩
            have hval : V - 1 = al := by rw [← hal, allS, HN.out, hV]
            have e4 : IntKind.u32.wrap ((V : Int) - 1) = (al : Int) := by rw [wrap_u32']; omega
            have e5 : ((V : Int) - 1) % 4294967296 = (al : Int) := by omega
            have hal32 : al < 4294967296 := by omega
            obtain ⟨p1, hp1⟩ : ∃ p, al &&& (4294967295 - s) = p := ⟨_, rfl⟩
            have f1 : bits .andNot .u32 (al : Int) (s : Int) = (p1 : Int) := by rw [u32_andNot_nat al s hal32 hs32, hp1]
            have hp132 : p1 < 4294967296 := by rw [← hp1]; exact Nat.lt_of_le_of_lt Nat.and_le_left hal32
            obtain ⟨p2, hp2⟩ : ∃ p, p1 &&& (4294967295 - z) = p := ⟨_, rfl⟩
            have f2 : bits .andNot .u32 (p1 : Int) (z : Int) = (p2 : Int) := by rw [u32_andNot_nat p1 z hp132 hz32, hp2]
            have hp232 : p2 < 4294967296 := by rw [← hp2]; exact Nat.lt_of_le_of_lt Nat.and_le_left hp132
            obtain ⟨V2, hV2, hV21, g1, g2, g3⟩ := pow_facts v hv25
            obtain ⟨fr, hfr⟩ : ∃ fr, kpF R C s z v = fr := ⟨_, rfl⟩
            have f3 : bits .andNot .u32 (p2 : Int) (V2 : Int) = (fr : Int) := by rw [u32_andNot_nat p2 V2 hp232 (by omega), ← hfr, kpF, hal, hp1, hp2, del, hV2]
            have hfrl : fr < 2 ^ (R * C) := by rw [← hfr]; exact kpF_lt R C s z v
            have HFRL := Lib.hid hfrl
            have HDF : Hid (∀ m, dfs (dP (fun _ _ => true)) (dG (kpG R C s z v)) (els 25 fr) m [] = kpD R C s z v m) := Lib.hid fun m => by
              unfold kpD
              rw [hfr, els_top hfrl (by rw [HN.out]; exact hn25)]
            have HSOME : Hid (∃ m, m ≤ 4 ∧ ∃ l, kpD R C s z v m = some l) := Lib.hid (kp_some HOP.out.sd HOP.out.rs.lt HOP.out.rz.lt HOP.out.dj (by rw [HN.out]; exact hvN) (lost_no HLF.out).1 (lost_no HLF.out).2)
            clear hV hval hal hp1 hp2 hV2 hfr hfrl
            go_wp2_with fail
            go_quiet (fail)
            have HG4 : GoodW wb (w3.drewN nq) := HG3.to (belowN (Below.refl _ _) _)
            have c6 := HG4.cell (HZ6.out)
            have c7 := HG4.cell (HZ7.out)
            have c7' := HG4.cell (HZ8.out)
            have cx := HG4.cell (HZ3.out)
            obtain ⟨w4, hw4⟩ : ∃ w4, w3.drewN nq = w4 := ⟨_, rfl⟩
            rw [hw4] at HG4 c6 c7 c7' cx ⊢
            have HGG := Lib.hid HG4
            have HCH : Hid (∀ (m : Nat) (w' : World), m ≤ 5 → GoodW wb w' → Calls Tryd.prog 67 #[.int .u32 0, .int .u32 (fr : Int), .int .i64 (m : Int), .func (.func 72) #[] #[], .func (.func 73) #[] #[.pointer (some ⟨w1.heap.size, 0, none⟩), .pointer (some ⟨w1.heap.size + 1, 0, none⟩), .pointer (some ⟨w.heap.size + 1, 0, none⟩)]] w' (ChP (fun _ _ => true) (kpG R C s z v) (els 25 fr) m [] w')) := Lib.hid fun m w' hm hg =>
              kchoose g R C _ _ _ s z v fr wb HTA.out HOP.out.sd HFA.out HZ6.out HZ7.out HZ8.out HZ3.out HOP.out.rs.lt HOP.out.rz.lt hv25 HFRL.out m w' hm hg
            clear hw4 HG4 HG3 HG2 c6 c7 c7' cx xb
            go_wp2_with fail
            go_loopw [74] (fun vi wr => ∃ mm : Nat, mm ≤ 5 ∧ vi = .int .i64 (mm : Int) ∧ Hid (∀ j, j < mm → kpD R C s z v j = none) ∧ Hid (GoodW wb wr)) (fun vi _ => 5 - (intOf vi).toNat)
            case atStart => exact ⟨0, by omega, rfl, Lib.hid (fun j hj => by omega), HGG⟩
            case round =>
              clear HGG
              obtain ⟨mm, hmm, rfl, hN0, hG⟩ := hrel
              have hm5 : mm < 5 := by
                obtain ⟨m0, h1, l, h2⟩ := HSOME.out
                rcases Nat.lt_or_ge mm 5 with h | h
                · exact h
                · rw [hN0.out m0 (by omega)] at h2; cases h2
              have q2 : (mm : Int) < 5 := by omega
              have HCC := Lib.hid (HCH.out mm wr (by omega) hG.out)
              have HD1 := Lib.hid (HDF.out mm)
              have hbw : Below w.heap.size w wr := kb.trans (Below.mono hG.out hkb)
              have hbws := hbw.size
              go_wp2_with fail
              refine HCC.out.mono ?_
              rintro e w5 ⟨b5, hor⟩
              have k5 := hbw.trans (b5.mono hbws)
              have hk5 := k5.size
              have HG5 := Lib.hid (hG.out.to b5)
              have HT5 := Lib.hid (HTA.out.to HG5.out)
              clear HCC b5 hG
              rcases hor with ⟨l, hl, rfl⟩ | ⟨hl, s2, hs2, rfl⟩
              · rw [HD1.out] at hl
                have HLL : Hid (kpL R C s z v = l) := Lib.hid (kpL_at hm5 hN0.out hl)
                have hsub : l.Sublist (els (R * C) (kpF R C s z v)) := by
                  obtain ⟨t, e1, e2, _⟩ := dfs_some (show dfs _ _ _ _ _ = some l from hl)
                  rw [List.nil_append] at e1
                  rw [e1]; exact e2
                have h3 := sub_setL hsub
                have hq25 : setL l < 2 ^ 25 := lt25 h3.2.1 (by rw [HN.out]; exact hn25)
                have HFN : Hid (keepL r c S F v = li (els 25 (setL l))) := Lib.hid (by rw [HKL.out HKF.out, Int.toNat_natCast, HLL.out, els_top h3.2.1 (by rw [HN.out]; exact hn25), h3.2.2])
                obtain ⟨q, hq⟩ : ∃ q, setL l = q := ⟨_, rfl⟩
                rw [hq] at hq25 HFN ⊢
                have HQ := Lib.hid hq25
                clear hq hq25 h3 hsub hl
                go_wp2_with fail
                refine (list_of q _ HT5.out HQ.out).mono ?_
                rintro e w6 ⟨a6, c6, rfl, hO, b6⟩
                go_wp2_with fail
                go_ret2
                exact LP.ok HKF.out HFN.out hO.isL (k5.trans (b6.mono hk5))
              · rw [HD1.out] at hl
                have HN1 : Hid (∀ j, j < mm + 1 → kpD R C s z v j = none) := Lib.hid fun j hj => by
                  by_cases hj2 : j = mm
                  · rw [hj2]; exact hl
                  · exact hN0.out j (by omega)
                clear hl
                go_wp2_with fail
                go_roundw
                case rel => first | exact ⟨mm + 1, by omega, by go_num, HN1, HG5⟩ | ((repeat apply Exists.intro); exact ⟨⟨mm + 1, by omega, by go_num, HN1, HG5⟩, rfl⟩)
                case measure => (simp [intOf] <;> omega)
          | false =>
            by_cases hc2 : 2 ≤ cc
            · have e11 : decide ((1 : Int) < (cc : Int)) = true := by simp; omega
              have e12 : decide (1 < cc) = true := by simp; omega
              have HKF : Hid (keepE r c S F v = 12) := Lib.hid (by rw [HKE.out, HLB.out]; simp; try omega)
              go_wp2_with fail
              go_quiet ((first | (go_at_call 56; exact Calls.quiet_of_same (HCs.out _)) | (go_at_call 56; exact Calls.quiet_of_same (HCz.out _)) | (go_at_call 61; exact Calls.quiet_of (HC3.out _))))
              go_wp2
              go_ret2
              exact LP.nil HKF.out (keepl_bad (by rw [HKF.out]; decide)) (belowN (kb.trans (HG2.mono hkb)) _)
            · have e11 : decide ((1 : Int) < (cc : Int)) = false := by simp; omega
              have e12 : decide (1 < cc) = false := by simp; omega
              have HLF : Hid (lostB R C s z v = false) := Lib.hid (by rw [HLB.out]; simp; try omega)
              have HKF : Hid (keepE r c S F v = 0) := Lib.hid (by rw [HKE.out, HLF.out, if_neg (by simp)])
              go_wp2_with fail
              go_quiet ((first | (go_at_call 56; exact Calls.quiet_of_same (HCs.out _)) | (go_at_call 56; exact Calls.quiet_of_same (HCz.out _)) | (go_at_call 61; exact Calls.quiet_of (HC3.out _))))
              have HG3 : GoodW wb (w2.drewN nq) := HG2.to (belowN (Below.refl _ _) _)
              obtain ⟨w3, hw3⟩ : ∃ w3, w2.drewN nq = w3 := ⟨_, rfl⟩
              have hb23 : Below w2.heap.size w2 w3 := by rw [← hw3]; exact belowN (Below.refl _ _) _
              rw [hw3] at HG3 ⊢
              have c6 := GoodW.cell hb23 c6
              have c7 := GoodW.cell hb23 c7
              have c7' := GoodW.cell hb23 c7'
              have cx := GoodW.cell hb23 cx
              have xb := GoodW.cell hb23 xb
              clear hw3 hb23 m0
              obtain ⟨V, hV⟩ : ∃ V, 2 ^ N = V := ⟨_, rfl⟩
              have hV25 : V ≤ 33554432 := by rw [← hV]; exact Nat.le_trans (Nat.pow_le_pow_right (by omega) hn25) (by decide)
              have hV0 : 0 < V := by rw [← hV]; exact Nat.two_pow_pos _
              have e1 : (2 : Int) ^ N = (V : Int) := by rw [← hV, Int.natCast_pow]; rfl
              have e2 : IntKind.u32.wrap (V : Int) = (V : Int) := by rw [wrap_u32']; omega
              have e3 : (V : Int) % 4294967296 = (V : Int) := by omega
              obtain ⟨al, hal⟩ : ∃ al, allS R C = al := ⟨_, rfl⟩
              have hval : V - 1 = al := by rw [← hal, allS, HN.out, hV]
              have e4 : IntKind.u32.wrap ((V : Int) - 1) = (al : Int) := by rw [wrap_u32']; omega
              have e5 : ((V : Int) - 1) % 4294967296 = (al : Int) := by omega
              have hal32 : al < 4294967296 := by omega
              obtain ⟨p1, hp1⟩ : ∃ p, al &&& (4294967295 - s) = p := ⟨_, rfl⟩
              have f1 : bits .andNot .u32 (al : Int) (s : Int) = (p1 : Int) := by rw [u32_andNot_nat al s hal32 hs32, hp1]
              have hp132 : p1 < 4294967296 := by rw [← hp1]; exact Nat.lt_of_le_of_lt Nat.and_le_left hal32
              obtain ⟨p2, hp2⟩ : ∃ p, p1 &&& (4294967295 - z) = p := ⟨_, rfl⟩
              have f2 : bits .andNot .u32 (p1 : Int) (z : Int) = (p2 : Int) := by rw [u32_andNot_nat p1 z hp132 hz32, hp2]
              have hp232 : p2 < 4294967296 := by rw [← hp2]; exact Nat.lt_of_le_of_lt Nat.and_le_left hp132
              obtain ⟨V2, hV2, hV21, g1, g2, g3⟩ := pow_facts v hv25
              obtain ⟨fr, hfr⟩ : ∃ fr, kpF R C s z v = fr := ⟨_, rfl⟩
              have f3 : bits .andNot .u32 (p2 : Int) (V2 : Int) = (fr : Int) := by rw [u32_andNot_nat p2 V2 hp232 (by omega), ← hfr, kpF, hal, hp1, hp2, del, hV2]
              have hfrl : fr < 2 ^ (R * C) := by rw [← hfr]; exact kpF_lt R C s z v
              have HFRL := Lib.hid hfrl
              have HDF : Hid (∀ m, dfs (dP (fun _ _ => true)) (dG (kpG R C s z v)) (els 25 fr) m [] = kpD R C s z v m) := Lib.hid fun m => by
                unfold kpD
                rw [hfr, els_top hfrl (by rw [HN.out]; exact hn25)]
              have HSOME : Hid (∃ m, m ≤ 4 ∧ ∃ l, kpD R C s z v m = some l) := Lib.hid (kp_some HOP.out.sd HOP.out.rs.lt HOP.out.rz.lt HOP.out.dj (by rw [HN.out]; exact hvN) (lost_no HLF.out).1 (lost_no HLF.out).2)
              clear hV hval hal hp1 hp2 hV2 hfr hfrl
              go_wp2_with fail
              go_quiet (fail)
              have HG4 : GoodW wb (w3.drewN nq) := HG3.to (belowN (Below.refl _ _) _)
              have c6 := HG4.cell (HZ6.out)
              have c7 := HG4.cell (HZ7.out)
              have c7' := HG4.cell (HZ8.out)
              have cx := HG4.cell (HZ3.out)
              obtain ⟨w4, hw4⟩ : ∃ w4, w3.drewN nq = w4 := ⟨_, rfl⟩
              rw [hw4] at HG4 c6 c7 c7' cx ⊢
              have HGG := Lib.hid HG4
              have HCH : Hid (∀ (m : Nat) (w' : World), m ≤ 5 → GoodW wb w' → Calls Tryd.prog 67 #[.int .u32 0, .int .u32 (fr : Int), .int .i64 (m : Int), .func (.func 72) #[] #[], .func (.func 73) #[] #[.pointer (some ⟨w1.heap.size, 0, none⟩), .pointer (some ⟨w1.heap.size + 1, 0, none⟩), .pointer (some ⟨w.heap.size + 1, 0, none⟩)]] w' (ChP (fun _ _ => true) (kpG R C s z v) (els 25 fr) m [] w')) := Lib.hid fun m w' hm hg =>
                kchoose g R C _ _ _ s z v fr wb HTA.out HOP.out.sd HFA.out HZ6.out HZ7.out HZ8.out HZ3.out HOP.out.rs.lt HOP.out.rz.lt hv25 HFRL.out m w' hm hg
              clear hw4 HG4 HG3 HG2 c6 c7 c7' cx xb
              go_wp2_with fail
              go_loopw [74] (fun vi wr => ∃ mm : Nat, mm ≤ 5 ∧ vi = .int .i64 (mm : Int) ∧ Hid (∀ j, j < mm → kpD R C s z v j = none) ∧ Hid (GoodW wb wr)) (fun vi _ => 5 - (intOf vi).toNat)
              case atStart => exact ⟨0, by omega, rfl, Lib.hid (fun j hj => by omega), HGG⟩
              case round =>
                clear HGG
                obtain ⟨mm, hmm, rfl, hN0, hG⟩ := hrel
                have hm5 : mm < 5 := by
                  obtain ⟨m0, h1, l, h2⟩ := HSOME.out
                  rcases Nat.lt_or_ge mm 5 with h | h
                  · exact h
                  · rw [hN0.out m0 (by omega)] at h2; cases h2
                have q2 : (mm : Int) < 5 := by omega
                have HCC := Lib.hid (HCH.out mm wr (by omega) hG.out)
                have HD1 := Lib.hid (HDF.out mm)
                have hbw : Below w.heap.size w wr := kb.trans (Below.mono hG.out hkb)
                have hbws := hbw.size
                go_wp2_with fail
                refine HCC.out.mono ?_
                rintro e w5 ⟨b5, hor⟩
                have k5 := hbw.trans (b5.mono hbws)
                have hk5 := k5.size
                have HG5 := Lib.hid (hG.out.to b5)
                have HT5 := Lib.hid (HTA.out.to HG5.out)
                clear HCC b5 hG
                rcases hor with ⟨l, hl, rfl⟩ | ⟨hl, s2, hs2, rfl⟩
                · rw [HD1.out] at hl
                  have HLL : Hid (kpL R C s z v = l) := Lib.hid (kpL_at hm5 hN0.out hl)
                  have hsub : l.Sublist (els (R * C) (kpF R C s z v)) := by
                    obtain ⟨t, e1, e2, _⟩ := dfs_some (show dfs _ _ _ _ _ = some l from hl)
                    rw [List.nil_append] at e1
                    rw [e1]; exact e2
                  have h3 := sub_setL hsub
                  have hq25 : setL l < 2 ^ 25 := lt25 h3.2.1 (by rw [HN.out]; exact hn25)
                  have HFN : Hid (keepL r c S F v = li (els 25 (setL l))) := Lib.hid (by rw [HKL.out HKF.out, Int.toNat_natCast, HLL.out, els_top h3.2.1 (by rw [HN.out]; exact hn25), h3.2.2])
                  obtain ⟨q, hq⟩ : ∃ q, setL l = q := ⟨_, rfl⟩
                  rw [hq] at hq25 HFN ⊢
                  have HQ := Lib.hid hq25
                  clear hq hq25 h3 hsub hl
                  go_wp2_with fail
                  refine (list_of q _ HT5.out HQ.out).mono ?_
                  rintro e w6 ⟨a6, c6, rfl, hO, b6⟩
                  go_wp2_with fail
                  go_ret2
                  exact LP.ok HKF.out HFN.out hO.isL (k5.trans (b6.mono hk5))
                · rw [HD1.out] at hl
                  have HN1 : Hid (∀ j, j < mm + 1 → kpD R C s z v j = none) := Lib.hid fun j hj => by
                    by_cases hj2 : j = mm
                    · rw [hj2]; exact hl
                    · exact hN0.out j (by omega)
                  clear hl
                  go_wp2_with fail
                  go_roundw
                  case rel => first | exact ⟨mm + 1, by omega, by go_num, HN1, HG5⟩ | ((repeat apply Exists.intro); exact ⟨⟨mm + 1, by omega, by go_num, HN1, HG5⟩, rfl⟩)
                  case measure => (simp [intOf] <;> omega)
end Go.Proofs.YtbhjphcomppjgaaDoor
