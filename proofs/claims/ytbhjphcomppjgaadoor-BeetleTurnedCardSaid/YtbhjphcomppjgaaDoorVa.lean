/- Walks of chapter 9: floors by numbers: bits, neighbours. -/
import Derived.Test.YtbhjphcomppjgaaDoorWj
import Derived.Test.YtbhjphcomppjgaaDoorPp
import Derived.Test.YtbhjphcomppjgaaDoorRc
import Derived.Test.YtbhjphcomppjgaaDoorPe
import Derived.Laws.CopyOwn
import Derived.Deep.RegionLaw
import Derived.Shelf.RegionOpenPlain
import Derived.Test.YtbhjphcomppjgaaDoorRd
namespace Go.Proofs.YtbhjphcomppjgaaDoor
open Go.RowKit Beetle09

theorem els_yes {k s : Nat} (h : s.testBit k = true) : els (k + 1) s = els k s ++ [k] := by rw [els_succ, h]; rfl
theorem els_no {k s : Nat} (h : s.testBit k = false) : els (k + 1) s = els k s := by rw [els_succ, h]; exact List.append_nil _
set_option maxHeartbeats 2000000 in
theorem bits_any (s : Nat) (w : World) (hs : s < 4294967296) : Calls Tryd.prog 48 #[.int .u32 (s : Int)] w fun e w' => ∃ a c, e = .returned (.slice a (pcN 25 s) c) ∧ OwnL w' 3 w.heap.size a (pcN 25 s) c (li (els 25 s)) ∧ Below w.heap.size w w' := by
  go_enter Tryd.func48, Tryd.ntmps48
  go_wp2_with fail
  go_loopw [5, 3] (fun vi vo wr => ∃ (k n : Nat) (a : Option Addr) (c : Nat), k ≤ 25 ∧ vi = .int .i64 (k : Int) ∧ vo = .slice a n c ∧ n ≤ k ∧ Hid (OwnL wr 3 w.heap.size a n c (li (els k s))) ∧ Below w.heap.size w wr) (fun vi _ _ => 25 - (intOf vi).toNat)
  case atStart => exact ⟨0, 0, none, 0, by omega, rfl, rfl, by omega, Lib.hid (OwnL.nilL _ _ _), Below.refl _ _⟩
  case round =>
    obtain ⟨k, n, a, c, hk, rfl, rfl, hn, hO, hb⟩ := hrel
    have hsz := hb.size
    by_cases hlt : k < 25
    · have q0 : (k : Int) < 25 := by omega
      obtain ⟨V, d, e, hV, hV1, f1, f2, f3, f4⟩ := shr_facts s k hs hlt
      clear hV
      cases hbit : s.testBit k with
      | true =>
        have HS := Lib.hid (els_yes hbit)
        rw [hbit] at f4
        clear hbit
        go_wp2_with (at_builtin; refine wl_app_own Tryd.underlying22 elem3 w.heap.size (.tmp 13) (.tmp 15) rfl rfl rfl rfl (hO.out.alloc _) (isL_one _ _ _) (by simp; omega) (by omega) ?_)
        intro a2 c2 w2 ho hg hb2 _
        have hO5 : Hid (OwnL w2 3 w.heap.size a2 (n + 1) c2 (li (els (k + 1) s))) := Lib.hid (by rw [HS.out, li_app]; exact ho)
        have hb5 : Below w.heap.size w w2 := (hb.alloc (by omega) _).trans hb2
        clear ho hg hb2 hO f1 f2 f3 f4
        go_wp2_with fail
        go_roundw
        case rel => first | exact ⟨k + 1, n + 1, a2, c2, by omega, by go_num, rfl, by omega, hO5, hb5⟩ | ((repeat apply Exists.intro); exact ⟨⟨k + 1, n + 1, a2, c2, by omega, by go_num, rfl, by omega, hO5, hb5⟩, rfl⟩)
        case measure => (simp [intOf] <;> omega)
      | false =>
        have HS := Lib.hid (els_no hbit)
        rw [hbit] at f4
        clear hbit
        have hO5 : Hid (OwnL wr 3 w.heap.size a n c (li (els (k + 1) s))) := Lib.hid (by rw [HS.out]; exact hO.out)
        clear hO
        go_wp2_with fail
        go_roundw
        case rel => first | exact ⟨k + 1, n, a, c, by omega, by go_num, rfl, by omega, hO5, hb⟩ | ((repeat apply Exists.intro); exact ⟨⟨k + 1, n, a, c, by omega, by go_num, rfl, by omega, hO5, hb⟩, rfl⟩)
        case measure => (simp [intOf] <;> omega)
    · obtain rfl : k = 25 := by omega
      have hO1 := hO.out
      obtain rfl : n = pcN 25 s := by rw [← hO1.len, li_len, els_len]
      go_wp2_with fail
      go_ret
      exact ⟨_, _, rfl, hO1, hb⟩
end Go.Proofs.YtbhjphcomppjgaaDoor
namespace Go.Proofs.YtbhjphcomppjgaaDoor
open Go.RowKit Beetle09

abbrev plV (R C : Nat) : Value := .agg #[.int .i64 (R : Int), .int .i64 (C : Int)]
abbrev plL (R C : Nat) : List Value := [.int .i64 (R : Int), .int .i64 (C : Int)]
abbrev dirL : List Value := [.int .i64 (-1), .int .i64 0, .int .i64 1, .int .i64 0, .int .i64 0, .int .i64 (-1), .int .i64 0, .int .i64 1]
theorem bit_facts (s y : Nat) (hs : s < 4294967296) (hy : y < 25) : ∃ V d e : Nat, V ≤ 16777216 ∧ (2 : Int) ^ y = (V : Int) ∧ (s : Int) / (V : Int) = (d : Int) ∧ bits .and .u32 (d : Int) 1 = (e : Int) ∧ e ≤ 1 ∧ e = b2n (s.testBit y) := by
  obtain ⟨V, hV, hV1, f1, f2, _⟩ := pow_facts y hy
  have hd : s / V ≤ s := Nat.div_le_self _ _
  refine ⟨V, s / V, (s / V) &&& 1, hV1, f1, by rw [Int.natCast_ediv], u32_and_nat (s / V) 1 (by omega) (by omega), Nat.and_le_right, ?_⟩
  rw [hV, bit_shr]
  cases s.testBit y <;> rfl
theorem cell_ints {w : World} {g : Nat} {t : TypeId} {l : List Value} (h : ArrV VV w g t l) (i : Nat) {v : Value} (hv : l[i]? = some v) : w.cell? ⟨g, i, none⟩ = some v := val h i hv
set_option maxHeartbeats 16000000 in
set_option maxRecDepth 100000 in
theorem near_any (R C s n : Nat) (w : World) (hs : Sd R C) (hs25 : s < 2 ^ 25) (hn : n < R * C) : Calls Tryd.prog 50 #[plV R C, .int .u32 (s : Int), .int .i64 (n : Int)] w fun e w' => e = .returned (.int .i64 (cnt R C s n)) ∧ Below w.heap.size w w' := by
  obtain ⟨hR1, hR, hC1, hC⟩ := hs
  have hi25 : n < 25 := Nat.lt_of_lt_of_le hn (Nat.le_trans (Nat.mul_le_mul hR hC) (by decide))
  have hs32 : s < 4294967296 := by omega
  obtain ⟨q, hq⟩ : ∃ q, n / C = q := ⟨_, rfl⟩
  obtain ⟨t, ht⟩ : ∃ t, n % C = t := ⟨_, rfl⟩
  have f1 : (n : Int) / (C : Int) = (q : Int) := by rw [← hq]; simp
  have f2 : (n : Int) % (C : Int) = (t : Int) := by rw [← ht]; simp
  have f3 : ((C : Int) == 0) = false := by simp; omega
  have f4 : (0 : Int) < (C : Int) := by omega
  have f5 : ¬ (C : Int) = 0 := by omega
  have hqR : q < R := by rw [← hq]; exact (Nat.div_lt_iff_lt_mul (by omega)).2 hn
  have htC : t < C := by rw [← ht]; exact Nat.mod_lt _ (by omega)
  have hnq : n = q * C + t := by rw [← hq, ← ht, Nat.mul_comm]; exact (Nat.div_add_mod n C).symm
  have HC := Lib.hid (cnt_rc (R := R) (s := s) (r := q) htC)
  rw [← hnq] at HC
  obtain ⟨b0, hb0⟩ : ∃ b, b2n (decide (0 < q) && at' C s (q - 1) t) = b := ⟨_, rfl⟩
  obtain ⟨b1, hb1⟩ : ∃ b, b2n (decide (q + 1 < R) && at' C s (q + 1) t) = b := ⟨_, rfl⟩
  obtain ⟨b2, hb2⟩ : ∃ b, b2n (decide (0 < t) && at' C s q (t - 1)) = b := ⟨_, rfl⟩
  obtain ⟨b3, hb3⟩ : ∃ b, b2n (decide (t + 1 < C) && at' C s q (t + 1)) = b := ⟨_, rfl⟩
  have HB0 := Lib.hid hb0
  have HB1 := Lib.hid hb1
  have HB2 := Lib.hid hb2
  have HB3 := Lib.hid hb3
  rw [hb0, hb1, hb2, hb3] at HC
  obtain ⟨N, hN⟩ : ∃ N, cnt R C s n = N := ⟨_, rfl⟩
  rw [hN] at HC ⊢
  have HX := Lib.hid (BoxS.start w (plL R C) 60)
  have x0 := val HX.out.box 0 rfl
  have x1 := val HX.out.box 1 rfl
  clear hq ht hnq hb0 hb1 hb2 hb3 hN
  go_enter Tryd.func50, Tryd.ntmps50
  go_wp2_with fail
  go_quiet (fail)
  have hT : BoxS w ((w.alloc (.cells (plL R C).toArray 60)).drewN nq) 60 (plL R C) := HX.out.to (belowN (Below.refl _ _) _)
  obtain ⟨w0, hw0⟩ : ∃ w0, (w.alloc (.cells (plL R C).toArray 60)).drewN nq = w0 := ⟨_, rfl⟩
  simp only [plL] at hw0 hT
  rw [hw0] at hT ⊢
  simp only [f2]
  clear HX hw0 x0 x1
  have x0 := val hT.box 0 rfl
  have x1 := val hT.box 1 rfl
  have hTL := hT.lt
  have HA0 : Hid (ArrV VV (w0.alloc (.cells dirL.toArray 109)) w0.heap.size 109 dirL) := Lib.hid (ArrV.new w0 _ _ _ _ rfl (by simp [VV]))
  have HT0 : Hid (BoxS w (w0.alloc (.cells dirL.toArray 109)) 60 (plL R C)) := Lib.hid (hT.alloc _)
  go_wp2_with fail
  go_loopw [28, 7] (fun vi vo wr => ∃ i u : Nat, i ≤ 4 ∧ vi = .int .i64 (i : Int) ∧ vo = .int .i64 (u : Int) ∧ u ≤ i ∧ Hid (u = ([b0, b1, b2, b3].take i).sum) ∧ Hid (BoxS w wr 60 (plL R C)) ∧ Hid (ArrV VV wr w0.heap.size 109 dirL)) (fun vi _ _ => 4 - (intOf vi).toNat)
  case atStart => exact ⟨0, 0, by omega, rfl, rfl, by omega, Lib.hid rfl, HT0, HA0⟩
  case round =>
    clear HA0 HT0 x0 x1 hT
    obtain ⟨i, u, hi, rfl, rfl, hu, hU, hT, hA⟩ := hrel
    have x0 := val hT.out.box 0 rfl
    have x1 := val hT.out.box 1 rfl
    have hTL := hT.out.lt
    have hAL := hA.out.lt
    have wt : IntKind.i64.wrap (t : Int) = (t : Int) := IntWalk.i64_in _ (by omega)
    have wq : IntKind.i64.wrap (q : Int) = (q : Int) := IntWalk.i64_in _ (by omega)
    rcases (by omega : i = 0 ∨ i = 1 ∨ i = 2 ∨ i = 3 ∨ i = 4) with rfl | rfl | rfl | rfl | rfl
    · have y0 := val hA.out 0 rfl
      have y1 := val hA.out 1 rfl
      by_cases hc : 0 < q
      · obtain ⟨X, hX⟩ : ∃ X : Nat, q - 1 = X := ⟨_, rfl⟩
        obtain ⟨Y, hY⟩ : ∃ Y : Nat, t = Y := ⟨_, rfl⟩
        have hXR : X < R := by omega
        have hYC : Y < C := by omega
        obtain ⟨M, hM⟩ : ∃ M, X * C = M := ⟨_, rfl⟩
        have hM25 : M + Y < 25 := by
          have h1 := rc_lt (R := R) (C := C) hYC hXR
          have h2 := Nat.mul_le_mul hR hC
          omega
        have m1 : (X : Int) * (C : Int) = (M : Int) := by rw [← hM]; simp
        obtain ⟨I, hI⟩ : ∃ I, M + Y = I := ⟨_, rfl⟩
        have m2 : (M : Int) + (Y : Int) = (I : Int) := by omega
        have hI25 : I < 25 := by omega
        obtain ⟨V, d, e, hV1, g1, g2, g3, he1, he⟩ := bit_facts s I hs32 hI25
        have HE : Hid (e = b0) := Lib.hid (by
          rw [he, ← HB0.out, decide_eq_true hc, Bool.true_and, at']
          congr 2
          rw [hX, hY, hM, hI])
        have HU : Hid (u + e = ([b0, b1, b2, b3].take 1).sum) := Lib.hid (by have h1 := hU.out; have h2 := HE.out; simp at h1 ⊢; omega)
        have wX : IntKind.i64.wrap (X : Int) = (X : Int) := IntWalk.i64_in _ (by omega)
        have wY : IntKind.i64.wrap (Y : Int) = (Y : Int) := IntWalk.i64_in _ (by omega)
        have hu25 : u + e < 100 := by omega
        have sX : (q : Int) + -1 = (X : Int) := by omega
        obtain rfl : Y = t := by omega
        have dX0 : decide (0 ≤ (X : Int)) = true := by simp
        have dXR : decide ((X : Int) < (R : Int)) = true := by simp; omega
        have dY0 : decide (0 ≤ (Y : Int)) = true := by simp
        have dYC : decide ((Y : Int) < (C : Int)) = true := by simp; omega
        clear hX hY hM hI he hc hU
        have HTn : Hid (BoxS w (wr.alloc (.cells #[.int .i64 (-1), .int .i64 0] 109)) 60 (plL R C)) := Lib.hid (hT.out.alloc _)
        have HAn : Hid (ArrV VV (wr.alloc (.cells #[.int .i64 (-1), .int .i64 0] 109)) w0.heap.size 109 dirL) := Lib.hid (hA.out.alloc _)
        have z0 := val HTn.out.box 0 rfl
        have z1 := val HTn.out.box 1 rfl
        clear hT hA
        go_wp2_with fail
        go_quiet (fail)
        go_wp2_with fail
        go_roundw
        case rel => first | exact ⟨1, u + e, by omega, rfl, by go_num, by omega, HU, Lib.hid (HTn.out.to (belowN (Below.refl _ _) _)), Lib.hid (HAn.out.below (belowN (Below.refl _ _) _))⟩ | ((repeat apply Exists.intro); exact ⟨⟨1, u + e, by omega, rfl, by go_num, by omega, HU, Lib.hid (HTn.out.to (belowN (Below.refl _ _) _)), Lib.hid (HAn.out.below (belowN (Below.refl _ _) _))⟩, rfl⟩)
        case measure => (simp [intOf] <;> omega)
      · have HU : Hid (u = ([b0, b1, b2, b3].take 1).sum) := Lib.hid (by
          have h1 := hU.out
          have h2 := HB0.out
          rw [decide_eq_false hc, Bool.false_and] at h2
          simp [b2n] at h1 h2 ⊢
          omega)
        have HTn : Hid (BoxS w (wr.alloc (.cells #[.int .i64 (-1), .int .i64 0] 109)) 60 (plL R C)) := Lib.hid (hT.out.alloc _)
        have HAn : Hid (ArrV VV (wr.alloc (.cells #[.int .i64 (-1), .int .i64 0] 109)) w0.heap.size 109 dirL) := Lib.hid (hA.out.alloc _)
        obtain rfl : q = 0 := by omega
        have z0 := val HTn.out.box 0 rfl
        have z1 := val HTn.out.box 1 rfl
        clear hT hA hU
        go_wp2_with fail
        go_quiet (fail)
        go_wp2_with fail
        go_roundw
        case rel => first | exact ⟨1, u, by omega, rfl, rfl, by omega, HU, Lib.hid (HTn.out.to (belowN (Below.refl _ _) _)), Lib.hid (HAn.out.below (belowN (Below.refl _ _) _))⟩ | ((repeat apply Exists.intro); exact ⟨⟨1, u, by omega, rfl, rfl, by omega, HU, Lib.hid (HTn.out.to (belowN (Below.refl _ _) _)), Lib.hid (HAn.out.below (belowN (Below.refl _ _) _))⟩, rfl⟩)
        case measure => (simp [intOf] <;> omega)
    · have y0 := val hA.out 2 rfl
      have y1 := val hA.out 3 rfl
      by_cases hc : q + 1 < R
      · obtain ⟨X, hX⟩ : ∃ X : Nat, q + 1 = X := ⟨_, rfl⟩
        obtain ⟨Y, hY⟩ : ∃ Y : Nat, t = Y := ⟨_, rfl⟩
        have hXR : X < R := by omega
        have hYC : Y < C := by omega
        obtain ⟨M, hM⟩ : ∃ M, X * C = M := ⟨_, rfl⟩
        have hM25 : M + Y < 25 := by
          have h1 := rc_lt (R := R) (C := C) hYC hXR
          have h2 := Nat.mul_le_mul hR hC
          omega
        have m1 : (X : Int) * (C : Int) = (M : Int) := by rw [← hM]; simp
        obtain ⟨I, hI⟩ : ∃ I, M + Y = I := ⟨_, rfl⟩
        have m2 : (M : Int) + (Y : Int) = (I : Int) := by omega
        have hI25 : I < 25 := by omega
        obtain ⟨V, d, e, hV1, g1, g2, g3, he1, he⟩ := bit_facts s I hs32 hI25
        have HE : Hid (e = b1) := Lib.hid (by
          rw [he, ← HB1.out, decide_eq_true hc, Bool.true_and, at']
          congr 2
          rw [hX, hY, hM, hI])
        have HU : Hid (u + e = ([b0, b1, b2, b3].take 2).sum) := Lib.hid (by have h1 := hU.out; have h2 := HE.out; simp at h1 ⊢; omega)
        have wX : IntKind.i64.wrap (X : Int) = (X : Int) := IntWalk.i64_in _ (by omega)
        have wY : IntKind.i64.wrap (Y : Int) = (Y : Int) := IntWalk.i64_in _ (by omega)
        have hu25 : u + e < 100 := by omega
        have sX : (q : Int) + 1 = (X : Int) := by omega
        obtain rfl : Y = t := by omega
        have dX0 : decide (0 ≤ (X : Int)) = true := by simp
        have dXR : decide ((X : Int) < (R : Int)) = true := by simp; omega
        have dY0 : decide (0 ≤ (Y : Int)) = true := by simp
        have dYC : decide ((Y : Int) < (C : Int)) = true := by simp; omega
        clear hX hY hM hI he hc hU
        have HTn : Hid (BoxS w (wr.alloc (.cells #[.int .i64 1, .int .i64 0] 109)) 60 (plL R C)) := Lib.hid (hT.out.alloc _)
        have HAn : Hid (ArrV VV (wr.alloc (.cells #[.int .i64 1, .int .i64 0] 109)) w0.heap.size 109 dirL) := Lib.hid (hA.out.alloc _)
        have z0 := val HTn.out.box 0 rfl
        have z1 := val HTn.out.box 1 rfl
        clear hT hA
        go_wp2_with fail
        go_quiet (fail)
        go_wp2_with fail
        go_roundw
        case rel => first | exact ⟨2, u + e, by omega, rfl, by go_num, by omega, HU, Lib.hid (HTn.out.to (belowN (Below.refl _ _) _)), Lib.hid (HAn.out.below (belowN (Below.refl _ _) _))⟩ | ((repeat apply Exists.intro); exact ⟨⟨2, u + e, by omega, rfl, by go_num, by omega, HU, Lib.hid (HTn.out.to (belowN (Below.refl _ _) _)), Lib.hid (HAn.out.below (belowN (Below.refl _ _) _))⟩, rfl⟩)
        case measure => (simp [intOf] <;> omega)
      · have HU : Hid (u = ([b0, b1, b2, b3].take 2).sum) := Lib.hid (by
          have h1 := hU.out
          have h2 := HB1.out
          rw [decide_eq_false hc, Bool.false_and] at h2
          simp [b2n] at h1 h2 ⊢
          omega)
        have HTn : Hid (BoxS w (wr.alloc (.cells #[.int .i64 1, .int .i64 0] 109)) 60 (plL R C)) := Lib.hid (hT.out.alloc _)
        have HAn : Hid (ArrV VV (wr.alloc (.cells #[.int .i64 1, .int .i64 0] 109)) w0.heap.size 109 dirL) := Lib.hid (hA.out.alloc _)
        obtain ⟨X, hX⟩ : ∃ X : Nat, q + 1 = X := ⟨_, rfl⟩
        have sX : (q : Int) + 1 = (X : Int) := by omega
        have wX : IntKind.i64.wrap (X : Int) = (X : Int) := IntWalk.i64_in _ (by omega)
        have dX0 : decide (0 ≤ (X : Int)) = true := by simp
        have dXR : decide ((X : Int) < (R : Int)) = false := by simp; omega
        have dXR2 : decide (X < R) = false := by simp; omega
        clear hX hc
        have z0 := val HTn.out.box 0 rfl
        have z1 := val HTn.out.box 1 rfl
        clear hT hA hU
        go_wp2_with fail
        go_quiet (fail)
        go_wp2_with fail
        go_roundw
        case rel => first | exact ⟨2, u, by omega, rfl, rfl, by omega, HU, Lib.hid (HTn.out.to (belowN (Below.refl _ _) _)), Lib.hid (HAn.out.below (belowN (Below.refl _ _) _))⟩ | ((repeat apply Exists.intro); exact ⟨⟨2, u, by omega, rfl, rfl, by omega, HU, Lib.hid (HTn.out.to (belowN (Below.refl _ _) _)), Lib.hid (HAn.out.below (belowN (Below.refl _ _) _))⟩, rfl⟩)
        case measure => (simp [intOf] <;> omega)
    · have y0 := val hA.out 4 rfl
      have y1 := val hA.out 5 rfl
      by_cases hc : 0 < t
      · obtain ⟨X, hX⟩ : ∃ X : Nat, q = X := ⟨_, rfl⟩
        obtain ⟨Y, hY⟩ : ∃ Y : Nat, t - 1 = Y := ⟨_, rfl⟩
        have hXR : X < R := by omega
        have hYC : Y < C := by omega
        obtain ⟨M, hM⟩ : ∃ M, X * C = M := ⟨_, rfl⟩
        have hM25 : M + Y < 25 := by
          have h1 := rc_lt (R := R) (C := C) hYC hXR
          have h2 := Nat.mul_le_mul hR hC
          omega
        have m1 : (X : Int) * (C : Int) = (M : Int) := by rw [← hM]; simp
        obtain ⟨I, hI⟩ : ∃ I, M + Y = I := ⟨_, rfl⟩
        have m2 : (M : Int) + (Y : Int) = (I : Int) := by omega
        have hI25 : I < 25 := by omega
        obtain ⟨V, d, e, hV1, g1, g2, g3, he1, he⟩ := bit_facts s I hs32 hI25
        have HE : Hid (e = b2) := Lib.hid (by
          rw [he, ← HB2.out, decide_eq_true hc, Bool.true_and, at']
          congr 2
          rw [hX, hY, hM, hI])
        have HU : Hid (u + e = ([b0, b1, b2, b3].take 3).sum) := Lib.hid (by have h1 := hU.out; have h2 := HE.out; simp at h1 ⊢; omega)
        have wX : IntKind.i64.wrap (X : Int) = (X : Int) := IntWalk.i64_in _ (by omega)
        have wY : IntKind.i64.wrap (Y : Int) = (Y : Int) := IntWalk.i64_in _ (by omega)
        have hu25 : u + e < 100 := by omega
        obtain rfl : X = q := by omega
        have sY : (t : Int) + -1 = (Y : Int) := by omega
        have dX0 : decide (0 ≤ (X : Int)) = true := by simp
        have dXR : decide ((X : Int) < (R : Int)) = true := by simp; omega
        have dY0 : decide (0 ≤ (Y : Int)) = true := by simp
        have dYC : decide ((Y : Int) < (C : Int)) = true := by simp; omega
        clear hX hY hM hI he hc hU
        have HTn : Hid (BoxS w (wr.alloc (.cells #[.int .i64 0, .int .i64 (-1)] 109)) 60 (plL R C)) := Lib.hid (hT.out.alloc _)
        have HAn : Hid (ArrV VV (wr.alloc (.cells #[.int .i64 0, .int .i64 (-1)] 109)) w0.heap.size 109 dirL) := Lib.hid (hA.out.alloc _)
        have z0 := val HTn.out.box 0 rfl
        have z1 := val HTn.out.box 1 rfl
        clear hT hA
        go_wp2_with fail
        go_quiet (fail)
        go_wp2_with fail
        go_roundw
        case rel => first | exact ⟨3, u + e, by omega, rfl, by go_num, by omega, HU, Lib.hid (HTn.out.to (belowN (Below.refl _ _) _)), Lib.hid (HAn.out.below (belowN (Below.refl _ _) _))⟩ | ((repeat apply Exists.intro); exact ⟨⟨3, u + e, by omega, rfl, by go_num, by omega, HU, Lib.hid (HTn.out.to (belowN (Below.refl _ _) _)), Lib.hid (HAn.out.below (belowN (Below.refl _ _) _))⟩, rfl⟩)
        case measure => (simp [intOf] <;> omega)
      · have HU : Hid (u = ([b0, b1, b2, b3].take 3).sum) := Lib.hid (by
          have h1 := hU.out
          have h2 := HB2.out
          rw [decide_eq_false hc, Bool.false_and] at h2
          simp [b2n] at h1 h2 ⊢
          omega)
        have HTn : Hid (BoxS w (wr.alloc (.cells #[.int .i64 0, .int .i64 (-1)] 109)) 60 (plL R C)) := Lib.hid (hT.out.alloc _)
        have HAn : Hid (ArrV VV (wr.alloc (.cells #[.int .i64 0, .int .i64 (-1)] 109)) w0.heap.size 109 dirL) := Lib.hid (hA.out.alloc _)
        obtain rfl : t = 0 := by omega
        have dX0 : decide (0 ≤ (q : Int)) = true := by simp
        have dXR : decide ((q : Int) < (R : Int)) = true := by simp; omega
        have z0 := val HTn.out.box 0 rfl
        have z1 := val HTn.out.box 1 rfl
        clear hT hA hU
        go_wp2_with fail
        go_quiet (fail)
        go_wp2_with fail
        go_roundw
        case rel => first | exact ⟨3, u, by omega, rfl, rfl, by omega, HU, Lib.hid (HTn.out.to (belowN (Below.refl _ _) _)), Lib.hid (HAn.out.below (belowN (Below.refl _ _) _))⟩ | ((repeat apply Exists.intro); exact ⟨⟨3, u, by omega, rfl, rfl, by omega, HU, Lib.hid (HTn.out.to (belowN (Below.refl _ _) _)), Lib.hid (HAn.out.below (belowN (Below.refl _ _) _))⟩, rfl⟩)
        case measure => (simp [intOf] <;> omega)
    · have y0 := val hA.out 6 rfl
      have y1 := val hA.out 7 rfl
      by_cases hc : t + 1 < C
      · obtain ⟨X, hX⟩ : ∃ X : Nat, q = X := ⟨_, rfl⟩
        obtain ⟨Y, hY⟩ : ∃ Y : Nat, t + 1 = Y := ⟨_, rfl⟩
        have hXR : X < R := by omega
        have hYC : Y < C := by omega
        obtain ⟨M, hM⟩ : ∃ M, X * C = M := ⟨_, rfl⟩
        have hM25 : M + Y < 25 := by
          have h1 := rc_lt (R := R) (C := C) hYC hXR
          have h2 := Nat.mul_le_mul hR hC
          omega
        have m1 : (X : Int) * (C : Int) = (M : Int) := by rw [← hM]; simp
        obtain ⟨I, hI⟩ : ∃ I, M + Y = I := ⟨_, rfl⟩
        have m2 : (M : Int) + (Y : Int) = (I : Int) := by omega
        have hI25 : I < 25 := by omega
        obtain ⟨V, d, e, hV1, g1, g2, g3, he1, he⟩ := bit_facts s I hs32 hI25
        have HE : Hid (e = b3) := Lib.hid (by
          rw [he, ← HB3.out, decide_eq_true hc, Bool.true_and, at']
          congr 2
          rw [hX, hY, hM, hI])
        have HU : Hid (u + e = ([b0, b1, b2, b3].take 4).sum) := Lib.hid (by have h1 := hU.out; have h2 := HE.out; simp at h1 ⊢; omega)
        have wX : IntKind.i64.wrap (X : Int) = (X : Int) := IntWalk.i64_in _ (by omega)
        have wY : IntKind.i64.wrap (Y : Int) = (Y : Int) := IntWalk.i64_in _ (by omega)
        have hu25 : u + e < 100 := by omega
        obtain rfl : X = q := by omega
        have sY : (t : Int) + 1 = (Y : Int) := by omega
        have dX0 : decide (0 ≤ (X : Int)) = true := by simp
        have dXR : decide ((X : Int) < (R : Int)) = true := by simp; omega
        have dY0 : decide (0 ≤ (Y : Int)) = true := by simp
        have dYC : decide ((Y : Int) < (C : Int)) = true := by simp; omega
        clear hX hY hM hI he hc hU
        have HTn : Hid (BoxS w (wr.alloc (.cells #[.int .i64 0, .int .i64 1] 109)) 60 (plL R C)) := Lib.hid (hT.out.alloc _)
        have HAn : Hid (ArrV VV (wr.alloc (.cells #[.int .i64 0, .int .i64 1] 109)) w0.heap.size 109 dirL) := Lib.hid (hA.out.alloc _)
        have z0 := val HTn.out.box 0 rfl
        have z1 := val HTn.out.box 1 rfl
        clear hT hA
        go_wp2_with fail
        go_quiet (fail)
        go_wp2_with fail
        go_roundw
        case rel => first | exact ⟨4, u + e, by omega, rfl, by go_num, by omega, HU, Lib.hid (HTn.out.to (belowN (Below.refl _ _) _)), Lib.hid (HAn.out.below (belowN (Below.refl _ _) _))⟩ | ((repeat apply Exists.intro); exact ⟨⟨4, u + e, by omega, rfl, by go_num, by omega, HU, Lib.hid (HTn.out.to (belowN (Below.refl _ _) _)), Lib.hid (HAn.out.below (belowN (Below.refl _ _) _))⟩, rfl⟩)
        case measure => (simp [intOf] <;> omega)
      · have HU : Hid (u = ([b0, b1, b2, b3].take 4).sum) := Lib.hid (by
          have h1 := hU.out
          have h2 := HB3.out
          rw [decide_eq_false hc, Bool.false_and] at h2
          simp [b2n] at h1 h2 ⊢
          omega)
        have HTn : Hid (BoxS w (wr.alloc (.cells #[.int .i64 0, .int .i64 1] 109)) 60 (plL R C)) := Lib.hid (hT.out.alloc _)
        have HAn : Hid (ArrV VV (wr.alloc (.cells #[.int .i64 0, .int .i64 1] 109)) w0.heap.size 109 dirL) := Lib.hid (hA.out.alloc _)
        obtain ⟨Y, hY⟩ : ∃ Y : Nat, t + 1 = Y := ⟨_, rfl⟩
        have sY : (t : Int) + 1 = (Y : Int) := by omega
        have wY : IntKind.i64.wrap (Y : Int) = (Y : Int) := IntWalk.i64_in _ (by omega)
        have dX0 : decide (0 ≤ (q : Int)) = true := by simp
        have dXR : decide ((q : Int) < (R : Int)) = true := by simp; omega
        have dY0 : decide (0 ≤ (Y : Int)) = true := by simp
        have dYC : decide ((Y : Int) < (C : Int)) = false := by simp; omega
        have dYC2 : decide (Y < C) = false := by simp; omega
        clear hY hc
        have z0 := val HTn.out.box 0 rfl
        have z1 := val HTn.out.box 1 rfl
        clear hT hA hU
        go_wp2_with fail
        go_quiet (fail)
        go_wp2_with fail
        go_roundw
        case rel => first | exact ⟨4, u, by omega, rfl, rfl, by omega, HU, Lib.hid (HTn.out.to (belowN (Below.refl _ _) _)), Lib.hid (HAn.out.below (belowN (Below.refl _ _) _))⟩ | ((repeat apply Exists.intro); exact ⟨⟨4, u, by omega, rfl, rfl, by omega, HU, Lib.hid (HTn.out.to (belowN (Below.refl _ _) _)), Lib.hid (HAn.out.below (belowN (Below.refl _ _) _))⟩, rfl⟩)
        case measure => (simp [intOf] <;> omega)
    · have HR : Hid (u = N) := Lib.hid (by have h1 := hU.out; have h2 := HC.out; simp at h1; omega)
      go_wp2_with fail
      go_ret
      exact ⟨ret_i (by rw [HR.out]), hT.out.below⟩
end Go.Proofs.YtbhjphcomppjgaaDoor
namespace Go.Proofs.YtbhjphcomppjgaaDoor
open Go.RowKit Beetle09

set_option maxHeartbeats 1000000 in
theorem mul1_any (N : Nat) (w : World) (h : N ≤ 25) : Calls Tryd.prog 87 #[.int .u64 1, .int .u64 (N : Int)] w fun e w' => e = .returned (.tuple #[.int .u64 0, .int .u64 (N : Int)]) ∧ w = w' := by
  have e1 : bits .and .u64 (N : Int) 4294967295 = (N : Int) := by
    have : ∀ n : Nat, n < 26 → bits .and .u64 (n : Int) 4294967295 = (n : Int) := by decide +kernel
    exact this N (by omega)
  have e2 : (N : Int) / 4294967296 = 0 := by omega
  have e3 : bits .and .u64 (0 : Int) 4294967295 = 0 := by decide
  have e4 : bits .and .u64 (1 : Int) 4294967295 = 1 := by decide
  go_enter Tryd.func87, Tryd.ntmps87
  go_wp2
  go_ret2
  exact ⟨rfl, rfl⟩
set_option maxHeartbeats 1000000 in
theorem mul_any (N : Nat) (w : World) (h : N ≤ 25) : Calls Tryd.prog 84 #[.int .u64 1, .int .u64 (N : Int)] w fun e w' => e = .returned (.tuple #[.int .u64 0, .int .u64 (N : Int)]) ∧ w = w' := by
  go_enter Tryd.func84, Tryd.ntmps84
  go_wp2_with fail
  refine (mul1_any N _ h).mono ?_
  rintro e w' ⟨rfl, rfl⟩
  go_wp2_with fail
  go_ret2
  exact ⟨rfl, rfl⟩
/-- The first m cells hold x, the others 0. -/
def repL (x : Int) (N m : Nat) : List Int := (List.range N).map fun i => if i < m then x else 0
theorem repL_len (x : Int) (N m : Nat) : (repL x N m).length = N := by simp [repL]
theorem repL_zero (x : Int) (N : Nat) : repL x N 0 = List.replicate N 0 := by
  apply List.ext_getElem
  · simp [repL]
  · intro i h1 h2; simp [repL]
theorem repL_full (x : Int) (N m : Nat) (h : N ≤ m) : repL x N m = List.replicate N x := by
  apply List.ext_getElem
  · simp [repL]
  · intro i h1 h2
    simp [repL] at h1 ⊢
    omega
theorem repL_get (x : Int) (N m i : Nat) (h : i < N) : (repL x N m).getD i 0 = if i < m then x else 0 := by
  unfold repL; rw [map_get, if_pos h]
theorem repL_splice (x : Int) (N m k : Nat) (h : m + k ≤ N) : splice ((repL x N m).map (Value.int .i64)) m (List.replicate k (Value.int .i64 x)) = (repL x N (m + k)).map (Value.int .i64) := by
  apply List.ext_getElem?
  intro i
  unfold splice repL
  simp only [List.getElem?_append, List.getElem?_take, List.getElem?_drop, List.length_take, List.length_map, List.length_range, List.length_replicate, List.getElem?_map, List.getElem?_replicate]
  have hm : min m N = m := by omega
  rw [hm]
  by_cases h1 : i < m
  · have h2 : i < N := by omega
    simp [h1, h2, show i < m + k by omega]
  · by_cases h3 : i - m < k
    · have h2 : i < N := by omega
      simp [h1, h2, h3, show i < m + k by omega]
    · rw [if_neg h1, if_neg h3]
      have e : m + k + (i - m - k) = i := by omega
      rw [e]
      by_cases h2 : i < N
      · simp [h1, h2, show ¬ i < m + k by omega]
      · simp [h2]
theorem OwnL.arr {w : World} {e : TypeId} {B g n : Nat} {l : List Int} (h : OwnL w e B (some ⟨g, 0, none⟩) n n l) : ArrV (Value.int .i64) w g e l ∧ B ≤ g := by
  rcases h.2 with ⟨hv, hn⟩ | ⟨g', cap, cur, hv, hg, hh, hnc, hcm, hcs, ht⟩
  · cases hv
  · simp only [Value.slice.injEq, Option.some.injEq, Addr.mk.injEq] at hv
    obtain ⟨⟨rfl, _⟩, _, rfl⟩ := hv
    refine ⟨?_, hg⟩
    rw [List.take_of_length_le (by simp [hcs])] at ht
    unfold ArrV
    rw [hh, ← ht]
theorem ArrV.own {w : World} {e : TypeId} {B g n : Nat} {l : List Int} (h : ArrV (Value.int .i64) w g e l) (hB : B ≤ g) (hn : l.length = n) (hm : n ≤ maxLen) : OwnL w e B (some ⟨g, 0, none⟩) n n l :=
  ⟨by simp [hn], .inr ⟨g, n, _, rfl, hB, h, Nat.le_refl _, hm, by simp [hn], by subst hn; simp; exact List.take_of_length_le (by simp)⟩⟩
theorem cells3r : (Tryd.prog.info? 3).map (·.size) = some 1 := by kernel_rfl
set_option maxHeartbeats 4000000 in
set_option maxRecDepth 100000 in
theorem Repeat_any (N : Nat) (a : Option Addr) (x : Int) (w : World) (h1 : 1 ≤ N) (h2 : N ≤ 25) (h : IsL w a 1 1 [x]) : Calls Tryd.prog 79 #[.slice a 1 1, .int .i64 (N : Int)] w fun e w' => ∃ g, e = .returned (.slice (some ⟨g, 0, none⟩) N N) ∧ OwnL w' 3 w.heap.size (some ⟨g, 0, none⟩) N N (List.replicate N x) ∧ Below w.heap.size w w' := by
  obtain ⟨b, o, rfl, hbl, hc⟩ := h.cells (by omega)
  have y0 := hc 0 (by omega)
  simp at y0
  clear hc h
  go_enter Tryd.func79, Tryd.ntmps79
  go_wp2_with fail
  refine (mul_any N _ h2).mono ?_
  rintro e w' ⟨rfl, rfl⟩
  go_wp2_with (at_make; refine wl_make (Value.int .i64) (0 : Int) (.int .i64 0) 8 w.heap.size Tryd.underlying22 elem3 rfl rfl (.tmp 29) (.tmp 29) rfl rfl N rfl rfl (by omega) (by omega) (Nat.le_refl _) ?_)
  intro w1 ho1 hg1 hb1
  have hA := (OwnL.arr ho1.ints).1
  rw [← repL_zero x N] at hA
  have HA := Lib.hid hA
  have y1 := (hb1.cell (p := ⟨b, o, none⟩) hbl).trans y0
  clear ho1 hg1 hA y0
  have c1 : ([Value.int IntKind.i64 x]).length = Nat.min 1 N := by show 1 = min 1 N; omega
  have c2 : 0 + ([Value.int IntKind.i64 x]).length ≤ ((repL x N 0).map (Value.int .i64)).length := by simp [repL_len]; omega
  have c3 : ∀ v ∈ [Value.int IntKind.i64 x], v.oneCell' = true := by simp [Value.oneCell']
  have c4 : ∀ j v, [Value.int IntKind.i64 x][j]? = some v → w1.cell? ((⟨b, o, none⟩ : Addr).add j) = some v := fun j v hv => by
    match j, hv with
    | 0, hv => simp at hv; subst hv; simpa [Addr.add] using y1
  have C1 := Lib.hid c1
  have C2 := Lib.hid c2
  have C3 := Lib.hid c3
  have C4 := Lib.hid c4
  clear c1 c2 c3 c4
  go_wp2_with (refine wpList_copy_splice rfl (.tmp 31) (.tmp 32) 22 22 rfl 3 Tryd.underlying22 cells3r (some ⟨w.heap.size, 0, none⟩) (some ⟨b, o, none⟩) N N 1 1 rfl rfl w.heap.size 0 ((repL x N 0).map (Value.int .i64)) 3 HA.out [.int .i64 x] C1.out (fun _ => ⟨rfl, ⟨b, o, none⟩, rfl, C4.out⟩) C2.out C3.out w.heap.size w hb1 (Nat.le_refl _) ?_)
  intro w2 hw2 hb2
  have HA2 : Hid (ArrV (Value.int .i64) w2 w.heap.size 3 (repL x N 1)) := Lib.hid (by
    have := hw2.out
    rw [show [Value.int IntKind.i64 x] = List.replicate 1 (Value.int .i64 x) from rfl, repL_splice x N 0 1 (by omega), Nat.zero_add] at this
    exact this)
  clear HA hw2 y1 hb1 C1 C2 C3 C4
  go_wp2_with fail
  go_loopw [8] (fun vm wr => ∃ m : Nat, 1 ≤ m ∧ m ≤ N ∧ vm = .int .i64 (m : Int) ∧ Hid (ArrV (Value.int .i64) wr w.heap.size 3 (repL x N m)) ∧ Below w.heap.size w wr) (fun vm _ => N - (intOf vm).toNat)
  case atStart => exact ⟨1, by omega, by omega, rfl, HA2, hb2⟩
  case round =>
    clear HA2 hb2
    obtain ⟨m, hm1, hmN, rfl, hA, hb⟩ := hrel
    by_cases hlt : m < N
    · have q1 : (m : Int) < (N : Int) := by omega
      obtain ⟨k, hk⟩ : ∃ k, min m (N - m) = k := ⟨_, rfl⟩
      have hk1 : 1 ≤ k := by omega
      have hkm : k ≤ m := by omega
      have hkN : m + k ≤ N := by omega
      have hNm : ¬ N = m := by omega
      have D1 : Hid ((List.replicate k (Value.int IntKind.i64 x)).length = Nat.min m (N - m)) := Lib.hid (by rw [List.length_replicate]; exact hk.symm)
      have D2 : Hid (m + (List.replicate k (Value.int IntKind.i64 x)).length ≤ ((repL x N m).map (Value.int .i64)).length) := Lib.hid (by simp [repL_len]; omega)
      have D3 : Hid (∀ v ∈ List.replicate k (Value.int IntKind.i64 x), v.oneCell' = true) := Lib.hid (fun v hv => by rw [(List.mem_replicate.1 hv).2]; rfl)
      have D4 : Hid (∀ j v, (List.replicate k (Value.int IntKind.i64 x))[j]? = some v → wr.cell? ((⟨w.heap.size, 0, none⟩ : Addr).add j) = some v) := Lib.hid (fun j v hv => by
        rw [List.getElem?_replicate] at hv
        by_cases hj : j < k
        · rw [if_pos hj] at hv
          obtain rfl := Option.some.inj hv
          have := hA.out.cell j 0 (by rw [repL_len]; omega)
          rw [repL_get x N m j (by omega), if_pos (by omega)] at this
          rw [add_lit0, Nat.zero_add]
          exact this
        · rw [if_neg hj] at hv; cases hv)
      have D5 : Hid (∀ j v, (List.replicate k (Value.int IntKind.i64 x))[j]? = some v → wr.drew.cell? ((⟨w.heap.size, 0, none⟩ : Addr).add j) = some v) := Lib.hid (fun j v hv => D4.out j v hv)
      have HAd : Hid (ArrV (Value.int .i64) wr.drew w.heap.size 3 (repL x N m)) := Lib.hid hA.out.drew
      have hbd := hb.drew
      have wk : IntKind.i64.wrap ((m : Int) + (k : Int)) = (m : Int) + (k : Int) := IntWalk.i64_in _ (by omega)
      clear hk
      go_wp2_with fail
      have mixed : Tryd.prog.follows Departure.mixedOrders = true := by kernel_rfl
      go_region_law_o (refine step_copy_splice (by rfl) (.tmp 41) (.tmp 44) 22 22 (by rfl) 3 Tryd.underlying22 cells3r (some ⟨w.heap.size, m, none⟩) (some ⟨w.heap.size, 0, none⟩) (N - m) (N - m) m N ?_ ?_ w.heap.size m ((repL x N m).map (Value.int .i64)) 3 ?_ (List.replicate k (Value.int IntKind.i64 x)) ?_ ?_ ?_ ?_ w.heap.size w ?_ ?_ ?_; go_simp; go_simp; exact HAd.out; exact D1.out; exact (fun _ => ⟨rfl, ⟨w.heap.size, 0, none⟩, rfl, D5.out⟩); exact D2.out; exact D3.out; exact hbd; exact (Nat.le_refl _); intro w5 hw5 hb5; rw [List.length_replicate, show goInt (k : Int) = Value.int .i64 (k : Int) from rfl])
      have HA5 : Hid (ArrV (Value.int .i64) w5 w.heap.size 3 (repL x N (m + k))) := Lib.hid (by
        have := hw5.out
        rw [repL_splice x N m k hkN] at this
        exact this)
      clear hw5 hA hb hbd HAd D1 D2 D3 D4 D5
      go_wp2_with fail
      go_roundw
      case rel => first | exact ⟨m + k, by omega, by omega, by go_num, HA5, hb5⟩ | ((repeat apply Exists.intro); exact ⟨⟨m + k, by omega, by omega, by go_num, HA5, hb5⟩, rfl⟩)
      case measure =>
        have e9 : N - ((m : Int) + (k : Int)).toNat < N - m := by omega
        first | exact e9 | (go_simp; simp [intOf]; omega)
    · obtain rfl : N = m := by omega
      have HO : Hid (OwnL wr 3 w.heap.size (some ⟨w.heap.size, 0, none⟩) N N (List.replicate N x)) := Lib.hid (by
        have := hA.out.own (Nat.le_refl w.heap.size) (n := N) (by rw [repL_len]) (by unfold maxLen; omega)
        rwa [repL_full x N N (Nat.le_refl _)] at this)
      go_wp2_with fail
      go_ret
      exact ⟨_, rfl, HO.out, hb⟩
end Go.Proofs.YtbhjphcomppjgaaDoor
namespace Beetle09
/-- The days while the first bales are entered. -/
def begL (N : Nat) (l : List Nat) (i : Nat) : List Int := (List.range N).map fun j => if j ∈ l.take i then 0 else -1
theorem begL_zero (N : Nat) (l : List Nat) : begL N l 0 = List.replicate N (-1) := by
  apply List.ext_getElem
  · simp [begL]
  · intro i h1 h2; simp [begL]
theorem begL_step {N : Nat} {l : List Nat} {i : Nat} (h : i < l.length) : (begL N l i).set (l.getD i 0) 0 = begL N l (i + 1) := by
  unfold begL
  rw [map_set]
  refine map_cong fun j _ => ?_
  rw [List.take_succ_eq_append_getElem h, show l.getD i 0 = l[i] by simp [List.getD, h]]
  by_cases e : j = l[i]
  · rw [if_pos e, if_pos (List.mem_append_right _ (by rw [e]; exact List.mem_singleton_self _))]
  · rw [if_neg e]
    by_cases hm : j ∈ l.take i
    · rw [if_pos hm, if_pos (List.mem_append_left _ hm)]
    · rw [if_neg hm, if_neg (fun h => (List.mem_append.1 h).elim hm fun h => e (List.mem_singleton.1 h))]
theorem begL_fin {R C z s N : Nat} (_ : s < 2 ^ 25) (h : N ≤ 25) : begL N (els 25 s) (pcN 25 s) = (calA R C z s 0).take N := by
  unfold begL calA
  rw [← List.map_take, List.take_range, Nat.min_eq_left h, ← els_len, List.take_length]
  refine map_cong fun j hj => ?_
  rw [cal]
  by_cases hb : s.testBit j = true
  · rw [if_pos (mem_els.2 ⟨by omega, hb⟩), if_pos hb]
  · rw [if_neg (fun hm => hb (mem_els.1 hm).2), if_neg hb]
end Beetle09
namespace Go.Proofs.YtbhjphcomppjgaaDoor
open Go.RowKit Beetle09
theorem bit01_facts (s y : Nat) (hs : s < 4294967296) (hy : y < 25) (B : Bool) (hB : s.testBit y = B) : ∃ V d : Nat, V ≤ 16777216 ∧ (2 : Int) ^ y = (V : Int) ∧ (s : Int) / (V : Int) = (d : Int) ∧ bits .and .u32 (d : Int) 1 = (if B = true then 1 else 0) := by
  obtain ⟨V, d, e, h1, h2, h3, h4, _, h5⟩ := bit_facts s y hs hy
  refine ⟨V, d, h1, h2, h3, ?_⟩
  rw [h4, h5, hB]
  cases B <;> rfl
set_option maxHeartbeats 16000000 in
set_option maxRecDepth 100000 in
theorem ldays_any (R C s z : Nat) (w : World) (hs : Sd R C) (h1 : s < 2 ^ (R * C)) (h2 : z < 2 ^ (R * C)) : Calls Tryd.prog 47 #[plV R C, .int .u32 (s : Int), .int .u32 (z : Int)] w fun e w' => ∃ x c, e = .returned (.slice x (R * C) c) ∧ OwnL w' 3 (w.heap.size + 1) x (R * C) c (daysL R C z s) ∧ Below w.heap.size w w' := by
  have n25 := hs.n25
  have n1 := hs.n1
  have m1 : (R : Int) * (C : Int) = ((R * C : Nat) : Int) := by simp
  have HSD := Lib.hid hs
  have HS2 := Lib.hid h1
  have HZ2 := Lib.hid h2
  have HNR := Lib.hid (fun (r n : Nat) (w : World) (hr : r < 2 ^ 25) (hn : n < R * C) => near_any R C r n w hs hr hn)
  obtain ⟨N, hN⟩ : ∃ N, R * C = N := ⟨_, rfl⟩
  have HN := Lib.hid hN
  rw [hN] at n25 n1 m1 HNR h1 h2 ⊢
  have hs25 : s < 2 ^ 25 := lt25 h1 n25
  have hz25 : z < 2 ^ 25 := lt25 h2 n25
  have HB0 := Lib.hid (BoxS.start w (plL R C) 60)
  have x0 := val HB0.out.box 0 rfl
  have x1 := val HB0.out.box 1 rfl
  have HI0 : Hid (IsL ((w.alloc (.cells (plL R C).toArray 60)).alloc (.cells #[.int .i64 (-1)] 3)) (some ⟨w.heap.size + 1, 0, none⟩) 1 1 [-1]) := Lib.hid (isL_oneAt _ (-1) 3 _ (by simp))
  have HBX : Hid (BoxS w ((w.alloc (.cells (plL R C).toArray 60)).alloc (.cells #[.int .i64 (-1)] 3)) 60 (plL R C)) := Lib.hid (HB0.out.alloc _)
  have y0 := val HBX.out.box 0 rfl
  have y1 := val HBX.out.box 1 rfl
  clear hN hs h1 h2
  go_enter Tryd.func47, Tryd.ntmps47
  go_wp2_with fail
  refine (Repeat_any N _ (-1) _ n1 n25 HI0.out).mono ?_
  rintro e w2 ⟨g, rfl, ho, hb⟩
  have hgl := (ho.lt _ rfl)
  simp at hgl
  obtain ⟨hg1, hg2⟩ := hgl
  have HT2 := Lib.hid (HBX.out.to hb)
  have HO2 : Hid (OwnL w2 3 (w.heap.size + 1) (some ⟨g, 0, none⟩) N N (begL N (els 25 s) 0)) := Lib.hid (by rw [begL_zero]; exact ho.weaken (by simp))
  clear HB0 x0 x1 y0 y1 HI0 HBX ho hb
  go_wp2_with fail
  refine (bits_any s _ (by omega)).mono ?_
  rintro e w3 ⟨a3, c3, rfl, hl3, hb3⟩
  have HT3 := Lib.hid (HT2.out.to hb3)
  have HO3 := Lib.hid (HO2.out.below hb3)
  have HSP : Hid (Sep a3 (some ⟨g, 0, none⟩)) := Lib.hid (fun x y hx hy => by
    have := (hl3.lt x hx).1
    obtain rfl := Option.some.inj hy
    show x.block ≠ g
    omega)
  have HL3 := Lib.hid hl3.isL
  have hP := pcN_le 25 s
  have hc3 := hl3.isL.cap
  have hc4 := hl3.isL.le
  obtain ⟨P, hPe⟩ : ∃ P, pcN 25 s = P := ⟨_, rfl⟩
  have HP := Lib.hid hPe
  rw [hPe] at HL3 hP hc4 ⊢
  clear hl3 hb3 hPe HT2 HO2
  go_wp2_with fail
  go_loopw [23] (fun vi wr => ∃ i : Nat, i ≤ P ∧ vi = .int .i64 (i : Int) ∧ Hid (BoxS w wr 60 (plL R C)) ∧ Hid (OwnL wr 3 (w.heap.size + 1) (some ⟨g, 0, none⟩) N N (begL N (els 25 s) i)) ∧ Hid (IsL wr a3 P c3 (li (els 25 s)))) (fun vi _ => P - (intOf vi).toNat)
  case atStart => exact ⟨0, by omega, rfl, HT3, HO3, HL3⟩
  case round =>
    clear HT3 HO3 HL3
    obtain ⟨i, hi, rfl, hT, hO, hL⟩ := hrel
    by_cases hlt : i < P
    · have q0 : (i : Int) < (P : Int) := by omega
      obtain ⟨b, o, rfl, _, hc⟩ := hL.out.cells (by omega)
      have y1 := hc i hlt
      have hel : i < (els 25 s).length := by rw [els_len, HP.out]; exact hlt
      obtain ⟨v, hv⟩ : ∃ v, (els 25 s).getD i 0 = v := ⟨_, rfl⟩
      have hvN : v < N := by
        have hm : v ∈ els 25 s := by rw [← hv, show (els 25 s).getD i 0 = (els 25 s)[i] by simp [List.getD, hel]]; exact List.getElem_mem hel
        have := bit_lt HS2.out (mem_els.1 hm).2
        rw [HN.out] at this; exact this
      rw [li_get, hv] at y1
      have q1 : (v : Int) < (N : Int) := by omega
      obtain ⟨z1, z2⟩ := hO.out.gen.cell v 0 hvN
      have hT5 := Lib.hid (hT.out.set (p := ⟨g, v, none⟩) (by simp only []; omega) (.int .i64 0))
      have hO5 : Hid (OwnL (wr.setCell ⟨g, v, none⟩ (.int .i64 0)) 3 (w.heap.size + 1) (some ⟨g, 0, none⟩) N N (begL N (els 25 s) (i + 1))) := Lib.hid (by rw [← begL_step hel, hv]; exact hO.out.set v 0 hvN)
      have hL5 := Lib.hid (IsL.grown (o := some ⟨g, 0, none⟩) (k := 0) (co := 0) hL.out (by simpa [Value.ownBlock] using grown_setCell wr g v (.int .i64 0)) HSP.out)
      clear hv hc hel hT hO hL
      go_wp2_with fail
      go_roundw
      case rel => first | exact ⟨i + 1, by omega, by go_num, hT5, hO5, hL5⟩ | ((repeat apply Exists.intro); exact ⟨⟨i + 1, by omega, by go_num, hT5, hO5, hL5⟩, rfl⟩)
      case measure => (simp [intOf] <;> omega)
    · obtain rfl : P = i := by omega
      have HT1 := hT
      have HO1 : Hid (OwnL wr 3 (w.heap.size + 1) (some ⟨g, 0, none⟩) N N ((calA R C z s 0).take N)) := Lib.hid (by rw [← begL_fin hs25 n25, HP.out]; exact hO.out)
      clear hT hO hL hlt
      obtain ⟨W1, rfl⟩ : ∃ W, W = wr := ⟨_, rfl⟩
      go_wp2_with fail
      go_loopw [10, 1] (fun vd vr wr => ∃ d r : Nat, vd = .int .i64 ((d : Int) + 1) ∧ vr = .int .u32 (r : Int) ∧ Hid (BoxS w wr 60 (plL R C)) ∧ Hid (OwnL wr 3 (w.heap.size + 1) (some ⟨g, 0, none⟩) N N ((calA R C z s d).take N)) ∧ Hid (itr R C z s d = r ∧ d ≤ pcN 25 r)) (fun _ vr _ => 25 - pcN 25 (intOf vr).toNat)
      case atStart => exact ⟨0, s, rfl, rfl, HT1, HO1, Lib.hid ⟨rfl, Nat.zero_le _⟩⟩
      case round =>
        clear HT1 HO1
        obtain ⟨d, r, rfl, rfl, hT, hO, hI⟩ := hrel
        obtain ⟨Wd, rfl⟩ : ∃ W, W = wr := ⟨_, rfl⟩
        have hd25 : d ≤ 25 := Nat.le_trans hI.out.2 (pcN_le _ _)
        have hr25 : r < 2 ^ 25 := by rw [← hI.out.1]; exact lt25 (itr_lt HS2.out d) (by rw [HN.out]; exact n25)
        have HT1 := hT
        have HO1 := Lib.hid (show OwnL Wd 3 (w.heap.size + 1) (some ⟨g, 0, none⟩) N N ((calM R C z s d 0).take N) by rw [calM_zero]; exact hO.out)
        clear hT hO
        go_wp2_with fail
        go_loopw [36, 11] (fun vn vx wr => ∃ n x : Nat, n ≤ N ∧ vn = .int .i64 (n : Int) ∧ vx = .int .u32 (x : Int) ∧ Hid (nxt R C z s d n = x ∧ x < 2 ^ 25) ∧ Hid (BoxS w wr 60 (plL R C)) ∧ Hid (OwnL wr 3 (w.heap.size + 1) (some ⟨g, 0, none⟩) N N ((calM R C z s d n).take N))) (fun vn _ _ => N - (intOf vn).toNat)
        case atStart => exact ⟨0, r, by omega, rfl, rfl, Lib.hid ⟨by rw [nxt_zero]; exact hI.out.1, hr25⟩, HT1, HO1⟩
        case round =>
          clear HT1 HO1
          obtain ⟨n, x, hn, rfl, rfl, hX, hT, hO⟩ := hrel
          by_cases hlt : n < N
          · have q0 : (n : Int) < (N : Int) := by omega
            have hn25 : n < 25 := by omega
            obtain ⟨q, hq⟩ : ∃ q, r ||| z = q := ⟨_, rfl⟩
            have f0 : bits .or .u32 (r : Int) (z : Int) = (q : Int) := by rw [u32_or_nat r z (by omega) (by omega), hq]
            have hq32 : q < 4294967296 := by rw [← hq]; exact Nat.lt_of_lt_of_le (Nat.or_lt_two_pow hr25 hz25) (by decide)
            obtain ⟨B1, hB1⟩ : ∃ B, q.testBit n = B := ⟨_, rfl⟩
            obtain ⟨V, dd, hV1, f1, f2, f3⟩ := bit01_facts q n hq32 hn25 B1 hB1
            have HB1 : Hid ((r.testBit n || z.testBit n) = B1) := Lib.hid (by rw [← Nat.testBit_or, hq]; exact hB1)
            clear hq hB1
            cases B1 with
            | true =>
              have f4 : bits .and .u32 (dd : Int) 1 = 1 := f3
              have HG : Hid (gets R C z (itr R C z s d) n = false) := Lib.hid (by
                rw [hI.out.1]
                have := HB1.out
                cases h1 : r.testBit n <;> cases h2 : z.testBit n <;> simp [h1, h2] at this <;> simp [gets, h1, h2])
              have HXM : Hid (nxt R C z s d (n + 1) = x ∧ x < 2 ^ 25) := Lib.hid (by rw [nxt_miss HG.out]; exact hX.out)
              have HOM : Hid (OwnL wr 3 (w.heap.size + 1) (some ⟨g, 0, none⟩) N N ((calM R C z s d (n + 1)).take N)) := Lib.hid (by rw [calM_miss HG.out]; exact hO.out)
              clear hX hO f3
              go_wp2_with fail
              go_roundw
              case rel => first | exact ⟨n + 1, x, by omega, by go_num, rfl, HXM, hT, HOM⟩ | ((repeat apply Exists.intro); exact ⟨⟨n + 1, x, by omega, by go_num, rfl, HXM, hT, HOM⟩, rfl⟩)
              case measure => (simp [intOf] <;> omega)
            | false =>
              have f4 : bits .and .u32 (dd : Int) 1 = 0 := f3
              have HB2 : Hid (r.testBit n = false ∧ z.testBit n = false) := Lib.hid (by simpa using HB1.out)
              have HC := Lib.hid (HNR.out r n)
              obtain ⟨c, hc⟩ : ∃ c, cnt R C r n = c := ⟨_, rfl⟩
              rw [hc] at HC
              have HCN := Lib.hid hc
              have hc4 : c ≤ 4 := by rw [← hc]; exact cnt_le4 R C r n
              have x0 := val hT.out.box 0 rfl
              have x1 := val hT.out.box 1 rfl
              clear hc f3
              by_cases h2 : 2 ≤ c
              · have HG : Hid (gets R C z (itr R C z s d) n = true) := Lib.hid (by rw [hI.out.1]; simp [gets, HB2.out.1, HB2.out.2, HCN.out]; exact h2)
                have c1 : decide ((1 : Int) < (c : Int)) = true := by simp; omega
                have c2 : 1 < c := by omega
                obtain ⟨V2, r2, hr2, hr25', hV12, g2, g3, g4, g5⟩ := or_facts x n hX.out.2 hn25
                obtain rfl : V2 = V := by have := f1.symm.trans g2; omega
                clear g2
                have HXM : Hid (nxt R C z s d (n + 1) = r2 ∧ r2 < 2 ^ 25) := Lib.hid ⟨by rw [← nxt_hit HG.out, hX.out.1, hr2], hr25'⟩
                clear hr2 hr25' hX h2
                go_wp2_with fail
                refine (HC.out _ hr25 hlt).mono ?_
                rintro e w5 ⟨rfl, b5⟩
                have hO5 := hO.out.below b5
                obtain ⟨z1, z2⟩ := hO5.gen.cell n 0 hlt
                have HT5 := Lib.hid ((hT.out.to b5).set (p := ⟨g, n, none⟩) (by simp only []; omega) (.int .i64 ((d : Int) + 1)))
                have HOM : Hid (OwnL (w5.setCell ⟨g, n, none⟩ (.int .i64 ((d : Int) + 1))) 3 (w.heap.size + 1) (some ⟨g, 0, none⟩) N N ((calM R C z s d (n + 1)).take N)) := Lib.hid (by
                  rw [← calM_hit (by rw [HN.out]; exact hlt) HG.out, take_set]; exact hO5.set n _ hlt)
                clear hO hT hO5 x0 x1 b5
                go_wp2_with fail
                go_roundw
                case rel => first | exact ⟨n + 1, r2, by omega, by go_num, rfl, HXM, HT5, HOM⟩ | ((repeat apply Exists.intro); exact ⟨⟨n + 1, r2, by omega, by go_num, rfl, HXM, HT5, HOM⟩, rfl⟩)
                case measure => (simp [intOf] <;> omega)
              · have HG : Hid (gets R C z (itr R C z s d) n = false) := Lib.hid (by rw [hI.out.1]; simp [gets, HB2.out.1, HB2.out.2, HCN.out]; omega)
                have c1 : decide ((1 : Int) < (c : Int)) = false := by simp; omega
                have c2 : ¬ 1 < c := by omega
                have HXM : Hid (nxt R C z s d (n + 1) = x ∧ x < 2 ^ 25) := Lib.hid (by rw [nxt_miss HG.out]; exact hX.out)
                clear hX h2
                go_wp2_with fail
                refine (HC.out _ hr25 hlt).mono ?_
                rintro e w5 ⟨rfl, b5⟩
                have HT5 := Lib.hid (hT.out.to b5)
                have HOM : Hid (OwnL w5 3 (w.heap.size + 1) (some ⟨g, 0, none⟩) N N ((calM R C z s d (n + 1)).take N)) := Lib.hid (by rw [calM_miss HG.out]; exact hO.out.below b5)
                clear hO hT x0 x1 b5
                go_wp2_with fail
                go_roundw
                case rel => first | exact ⟨n + 1, x, by omega, by go_num, rfl, HXM, HT5, HOM⟩ | ((repeat apply Exists.intro); exact ⟨⟨n + 1, x, by omega, by go_num, rfl, HXM, HT5, HOM⟩, rfl⟩)
                case measure => (simp [intOf] <;> omega)
          · obtain rfl : n = N := by omega
            have HX1 : Hid (itr R C z s (d + 1) = x) := Lib.hid (by rw [← nxt_fin, HN.out]; exact hX.out.1)
            by_cases hxr : x = r
            · subst hxr
              have HR : Hid (OwnL wr 3 (w.heap.size + 1) (some ⟨g, 0, none⟩) n n (daysL R C z s)) := Lib.hid (by
                have h1 : itr R C z s (d + 1) = itr R C z s d := by rw [HX1.out, hI.out.1]
                have := daysL_at (R := R) (C := C) (z := z) (s := s) (d := d) (by rw [HN.out]; exact n25) h1
                rw [HN.out] at this
                rw [← this]; exact hO.out)
              clear hO hX
              go_wp2_with fail
              go_ret
              exact ⟨_, _, rfl, HR.out, hT.out.below⟩
            · have hxr1 : ((x : Int) == (r : Int)) = false := by simp; omega
              have HXR : Hid (itr R C z s (d + 1) ≠ itr R C z s d) := Lib.hid (by
                rw [HX1.out, hI.out.1]; exact hxr)
              have HPC : Hid (pcN 25 r < pcN 25 x) := Lib.hid (by rw [← HX1.out, ← hI.out.1]; exact pc_grows (by rw [HN.out]; exact n25) HXR.out)
              have HI2 : Hid (itr R C z s (d + 1) = x ∧ d + 1 ≤ pcN 25 x) := Lib.hid ⟨HX1.out, by have := hI.out.2; have := HPC.out; omega⟩
              have HO2 : Hid (OwnL wr 3 (w.heap.size + 1) (some ⟨g, 0, none⟩) n n ((calA R C z s (d + 1)).take n)) := Lib.hid (by rw [← calM_fin, HN.out]; exact hO.out)
              have HPL := Lib.hid (pcN_le 25 x)
              clear hO hX hxr
              go_wp2_with fail
              go_roundw
              case rel => first | exact ⟨d + 1, x, by go_num, rfl, hT, HO2, HI2⟩ | ((repeat apply Exists.intro); exact ⟨⟨d + 1, x, by go_num, rfl, hT, HO2, HI2⟩, rfl⟩)
              case measure => (simp [intOf]; have := HPC.out; have := HPL.out; omega)
end Go.Proofs.YtbhjphcomppjgaaDoor
namespace Go.Proofs.YtbhjphcomppjgaaDoor
open Go.RowKit Beetle09
set_option maxHeartbeats 4000000 in
set_option maxRecDepth 100000 in
theorem lspread_any (R C s z : Nat) (w : World) (hs : Sd R C) (h1 : s < 2 ^ (R * C)) (h2 : z < 2 ^ (R * C)) : Calls Tryd.prog 49 #[plV R C, .int .u32 (s : Int), .int .u32 (z : Int)] w fun e w' => e = .returned (.int .u32 (fin R C z s : Nat)) ∧ Below w.heap.size w w' := by
  have n25 := hs.n25
  have HB0 := Lib.hid (BoxS.start w (plL R C) 60)
  have x0 := val HB0.out.box 0 rfl
  have x1 := val HB0.out.box 1 rfl
  have HC := Lib.hid (ldays_any R C s z (w.alloc (.cells (plL R C).toArray 60)) hs h1 h2)
  have HF := Lib.hid (fin_days (R := R) (C := C) (z := z) h1)
  have HGT : Hid (∀ i, i < R * C → (daysL R C z s).getD i 0 = cal R C z s (R * C) i) := Lib.hid (fun i hi => daysL_get hi)
  obtain ⟨Q, hQ⟩ : ∃ Q, fin R C z s = Q := ⟨_, rfl⟩
  have HPS : Hid (∀ k, ofP (fun n => decide (0 ≤ cal R C z s (R * C) n)) (k + 1) = if decide (0 ≤ cal R C z s (R * C) k) then ofP (fun n => decide (0 ≤ cal R C z s (R * C) n)) k ||| 2 ^ k else ofP (fun n => decide (0 ≤ cal R C z s (R * C) n)) k) := Lib.hid (fun k => rfl)
  have HP0 : Hid (ofP (fun n => decide (0 ≤ cal R C z s (R * C) n)) 0 = 0) := Lib.hid rfl
  obtain ⟨f, hf⟩ : ∃ f : Nat → Nat, ofP (fun n => decide (0 ≤ cal R C z s (R * C) n)) = f := ⟨_, rfl⟩
  obtain ⟨D, hD⟩ : ∃ D, cal R C z s (R * C) = D := ⟨_, rfl⟩
  obtain ⟨N, hN⟩ : ∃ N, R * C = N := ⟨_, rfl⟩
  rw [hQ, hf] at HF
  rw [hf] at HPS HP0
  rw [hN] at HF n25 HC
  simp only [hD] at HPS HGT
  rw [hN] at HGT
  rw [hQ]
  clear hs h1 h2 hQ hf hD hN
  go_enter Tryd.func49, Tryd.ntmps49
  go_wp2_with fail
  refine HC.out.mono ?_
  rintro e w2 ⟨a, c, rfl, ho, hb⟩
  have hk := (HB0.out.to hb).below
  have HL := Lib.hid ho.isL
  have hcap := ho.isL.cap
  have hle := ho.isL.le
  clear HC HB0 x0 x1 ho hb
  go_wp2_with fail
  go_loopw [15, 7] (fun vi vo wr => ∃ i q : Nat, i ≤ N ∧ vi = .int .i64 (i : Int) ∧ vo = .int .u32 (q : Int) ∧ Hid (f i = q ∧ q < 2 ^ 25) ∧ w2 = wr) (fun vi _ _ => N - (intOf vi).toNat)
  case atStart => exact ⟨0, 0, by omega, rfl, rfl, Lib.hid ⟨HP0.out, by decide⟩, rfl⟩
  case round =>
    obtain ⟨i, q, hi, rfl, rfl, hQ, rfl⟩ := hrel
    by_cases hlt : i < N
    · have q0 : (i : Int) < (N : Int) := by omega
      have hi25 : i < 25 := by omega
      obtain ⟨b, o, rfl, _, hc⟩ := HL.out.cells (by omega)
      have y1 := hc i hlt
      rw [HGT.out i hlt] at y1
      have HS := Lib.hid (HPS.out i)
      obtain ⟨v, hv⟩ : ∃ v, D i = v := ⟨_, rfl⟩
      rw [hv] at y1 HS
      clear hc hv
      by_cases h0 : 0 ≤ v
      · obtain ⟨V2, r2, hr2, hr25, hV12, g2, g3, g4, g5⟩ := or_facts q i hQ.out.2 hi25
        have d0 : decide (0 ≤ v) = true := by simpa using h0
        have HQ2 : Hid (f (i + 1) = r2 ∧ r2 < 2 ^ 25) := Lib.hid ⟨by rw [HS.out, if_pos d0, hQ.out.1, hr2], hr25⟩
        clear hr2 hr25 hQ HS
        go_wp2_with fail
        go_roundw
        case rel => first | exact ⟨i + 1, r2, by omega, by go_num, rfl, HQ2, by first | trivial | rfl⟩ | ((repeat apply Exists.intro); exact ⟨⟨i + 1, r2, by omega, by go_num, rfl, HQ2, by first | trivial | rfl⟩, rfl⟩)
        case measure => (simp [intOf] <;> omega)
      · have d0 : decide (0 ≤ v) = false := by simpa using h0
        have HQ2 : Hid (f (i + 1) = q ∧ q < 2 ^ 25) := Lib.hid ⟨by rw [HS.out, d0]; exact hQ.out.1, hQ.out.2⟩
        clear hQ HS
        go_wp2_with fail
        go_roundw
        case rel => first | exact ⟨i + 1, q, by omega, by go_num, rfl, HQ2, by first | trivial | rfl⟩ | ((repeat apply Exists.intro); exact ⟨⟨i + 1, q, by omega, by go_num, rfl, HQ2, by first | trivial | rfl⟩, rfl⟩)
        case measure => (simp [intOf] <;> omega)
    · obtain rfl : N = i := by omega
      have HR : Hid (q = Q) := Lib.hid (by rw [← hQ.out.1]; exact HF.out)
      go_wp2_with fail
      go_ret
      exact ⟨ret_i (by rw [HR.out]), hk⟩
set_option maxHeartbeats 4000000 in
set_option maxRecDepth 100000 in
theorem loutline_any (R C s : Nat) (w : World) (hs : Sd R C) (h1 : s < 2 ^ (R * C)) : Calls Tryd.prog 51 #[plV R C, .int .u32 (s : Int)] w fun e w' => e = .returned (.int .i64 (outl R C s)) ∧ Below w.heap.size w w' := by
  have n25 := hs.n25
  have hs25 := lt25 h1 n25
  have HB0 := Lib.hid (BoxS.start w (plL R C) 60)
  have x0 := val HB0.out.box 0 rfl
  have x1 := val HB0.out.box 1 rfl
  have HO := Lib.hid (outl_els n25 h1)
  have HBD := Lib.hid (fun k => outlL_bd R C s ((els 25 s).take k))
  have HTK := Lib.hid (fun i hi => outlL_take R C s (els 25 s) i hi)
  have HNR := Lib.hid (fun (n : Nat) (w : World) (hn : n < R * C) => near_any R C s n w hs hs25 hn)
  have HM : Hid (∀ i, i < (els 25 s).length → (els 25 s).getD i 0 < R * C) := Lib.hid fun i hi => by
    rw [show (els 25 s).getD i 0 = (els 25 s)[i] by simp [List.getD, hi]]
    exact bit_lt h1 (mem_els.1 (List.getElem_mem hi)).2
  have HP := Lib.hid (els_len 25 s)
  have hP := pcN_le 25 s
  obtain ⟨l, hl⟩ : ∃ l, els 25 s = l := ⟨_, rfl⟩
  obtain ⟨u, hu⟩ : ∃ u, outl R C s = u := ⟨_, rfl⟩
  have HBI := Lib.hid (bits_any s (w.alloc (.cells (plL R C).toArray 60)) (by omega))
  obtain ⟨P, hPe⟩ : ∃ P, pcN 25 s = P := ⟨_, rfl⟩
  rw [hu, hl] at HO
  rw [hl] at HTK HM
  rw [hl, hPe] at HP HBI
  rw [hPe] at hP
  simp only [hl] at HBD
  rw [hu]
  clear hl hu hPe hs h1
  go_enter Tryd.func51, Tryd.ntmps51
  go_wp2_with fail
  refine HBI.out.mono ?_
  rintro e w2 ⟨a, c, rfl, ho, hb⟩
  have HT0 := Lib.hid (HB0.out.to hb)
  have HL0 := Lib.hid ho.isL
  have hcap := ho.isL.cap
  have hle := ho.isL.le
  clear HBI HB0 x0 x1 ho hb
  go_wp2_with fail
  go_loopw [11, 5] (fun vi vo wr => ∃ (i : Nat) (o : Int), i ≤ P ∧ vi = .int .i64 (i : Int) ∧ vo = .int .i64 o ∧ 0 ≤ o ∧ o ≤ 100 ∧ Hid (outlL R C s (l.take i) = o) ∧ Hid (BoxS w wr 60 (plL R C)) ∧ Hid (IsL wr a P c (li l))) (fun vi _ _ => P - (intOf vi).toNat)
  case atStart => exact ⟨0, 0, by omega, rfl, rfl, by omega, by omega, Lib.hid rfl, HT0, HL0⟩
  case round =>
    clear HT0 HL0
    obtain ⟨i, o, hi, rfl, rfl, ho0, ho1, hO, hT, hL⟩ := hrel
    by_cases hlt : i < P
    · have q0 : (i : Int) < (P : Int) := by omega
      obtain ⟨b, off, rfl, _, hc⟩ := hL.out.cells (by omega)
      have y1 := hc i hlt
      rw [li_get] at y1
      have hil : i < l.length := by rw [HP.out]; exact hlt
      have hvN := HM.out i hil
      have HT := Lib.hid (HTK.out i hil)
      have hbd2 := HBD.out (i + 1)
      have hlen : (l.take (i + 1)).length ≤ 25 := by rw [List.length_take]; omega
      obtain ⟨v, hv⟩ : ∃ v, l.getD i 0 = v := ⟨_, rfl⟩
      rw [hv] at y1 hvN HT
      have HC := Lib.hid (HNR.out v)
      obtain ⟨k, hk⟩ : ∃ k, cnt R C s v = k := ⟨_, rfl⟩
      have hk4 : k ≤ 4 := by rw [← hk]; exact cnt_le4 R C s v
      rw [hk] at HC HT
      rw [hO.out] at HT
      rw [HT.out] at hbd2
      have hb1 : 0 ≤ o + (4 - (k : Int)) := hbd2.1
      have hb2 : o + (4 - (k : Int)) ≤ 100 := by have := hbd2.2; omega
      have x0 := val hT.out.box 0 rfl
      have x1 := val hT.out.box 1 rfl
      clear hc hv hk hil hlen hbd2
      go_wp2_with fail
      refine (HC.out _ hvN).mono ?_
      rintro e w5 ⟨rfl, b5⟩
      have HT5 := Lib.hid (hT.out.to b5)
      have HL5 := Lib.hid (hL.out.below b5)
      clear hT hL x0 x1 y1 b5
      go_wp2_with fail
      go_roundw
      case rel => first | exact ⟨i + 1, o + (4 - (k : Int)), by omega, by go_num, rfl, hb1, hb2, HT, HT5, HL5⟩ | ((repeat apply Exists.intro); exact ⟨⟨i + 1, o + (4 - (k : Int)), by omega, by go_num, rfl, hb1, hb2, HT, HT5, HL5⟩, rfl⟩)
      case measure => (simp [intOf] <;> omega)
    · obtain rfl : P = i := by omega
      have HR : Hid (o = u) := Lib.hid (by rw [← hO.out, List.take_of_length_le (by rw [HP.out]; exact Nat.le_refl _)]; exact HO.out)
      go_wp2_with fail
      go_ret
      exact ⟨ret_i HR.out, hT.out.below⟩
end Go.Proofs.YtbhjphcomppjgaaDoor
