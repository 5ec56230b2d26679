/- Law of chapter 3: GradeCodes. -/
import Derived.Test.YtmcckngodaeojaaXc
import Derived.Test.YtmcckngodaeojaaWR
namespace Grade03
theorem from_set {C : List Int} {n k : Nat} {z : Int} (hC : C.length = n) (h1 : 1 ≤ n) (h7 : n ≤ 7) (hk : k < n) (hz : z < 0 ∨ (n : Int) - k ≤ z) : fromE (C.set k z) = 1 := by
  have hs : sizeE (C.set k z).length = 0 := by
    rw [List.length_set, hC]; unfold sizeE; rw [if_neg (by omega), if_neg (by omega)]
  refine fromE_bad hs (i := k) (by rw [List.length_set]; omega) ?_
  unfold okC
  rw [set_getD _ _ _ _ (by omega), if_pos rfl, List.length_set, hC]
  omega
theorem code_from {D : List Int} {n : Nat} (hD : IsO D) (hl : D.length = n) (h1 : 1 ≤ n) (h7 : n ≤ 7) : fromE (codeL D) = 0 := by
  have hl2 : (codeL D).length = D.length := by simp [codeL]
  have hs : sizeE (codeL D).length = 0 := by rw [hl2, hl]; unfold sizeE; rw [if_neg (by omega), if_neg (by omega)]
  exact fromE_ok hs fun j hj => code_ok j (by rw [← hl2]; exact hj)
theorem codeL_get {D : List Int} {i : Nat} (hi : i < D.length) : (codeL D).getD i 0 = cdN D i := by simp [codeL, List.getD, hi]
theorem cdN_bd {D : List Int} {i n : Nat} (hl : D.length = n) (hi : i < n) : 0 ≤ cdN D i ∧ cdN D i ≤ (n : Int) - 1 - i := by
  have h := code_ok (l := D) i (by omega)
  have hl2 : (codeL D).length = D.length := by simp [codeL]
  unfold okC at h
  rw [codeL_get (by omega), hl2, hl] at h
  omega
end Grade03
namespace Go.Proofs.Ytmcckngodaeojaa
open Go.RowKit Grade03

set_option maxHeartbeats 8000000 in
set_option maxRecDepth 100000 in
theorem GradeCodes_l (L : List Value) (hL : BuyArg L) (z : Int) (hz : B8 z) (w : World) : Calls Try.prog 7 #[.agg L.toArray, .int .u8 z] w fun e w' => e = .returned (.bool true) ∧ Below w.heap.size w w' := by
  obtain ⟨N, hN1, hN7, hmade⟩ := hL.2 7 (w.alloc (.cells L.toArray 46)) (by omega) (by omega)
  have HM := Lib.hid hmade
  have hrg := buy_range w L
  have hi46 := Lib.hid (info46 hL.1)
  obtain ⟨z0, z1⟩ := hz
  clear hmade hL
  go_enter Try.func7, Try.ntmps7
  go_wp2_with (first
    | (refine wpList_load_mid rfl 46 (.tmp 2) rfl w.heap.size 0 rfl L _ hrg Try.underlying46 rfl hi46.out ?_)
    | (go_at_call 49; refine (HM.out).mono ?_))
  rintro e w1 ⟨a, c, b, d, D, E, rfl, h_D, h_E, k, hD, hE⟩
  replace k := ((Below.refl _ w).alloc (Nat.le_refl _) (.cells L.toArray 46)).trans (k.mono (by simp))
  have hDl := h_D.len
  have HD := Lib.hid hD
  have HDL := Lib.hid hDl
  have HC0 := Lib.hid (chk_ord hD hDl hN1 hN7)
  clear HM hrg hi46 h_E hE hD hDl
  go_wp2_with fail
  refine (Code_own _ _ _ _ _ h_D HC0.out).mono ?_
  rintro e w2 ⟨ac, cc, rfl, o2, b2⟩
  have hD2 := h_D.below b2
  have hs1 := k.size
  have hsep : Sep a ac := fun x y hx hy => by
    have h1 := h_D.lt (by omega) x hx
    have h2 := (o2.lt y hy).1
    omega
  have k2 := k.trans (b2.mono hs1)
  have oc : OwnL w2 3 w.heap.size ac N cc (codeL D) := o2.weaken hs1
  clear b2 h_D k o2 hs1
  have e0 : ((N : Int) != (N : Int)) = false := by simp
  have w5 : IntKind.i64.wrap ((N : Int) - 1) = (N : Int) - 1 := IntWalk.i64_in _ (by omega)
  have HCL : Hid ((codeL D).length = N) := Lib.hid oc.len
  obtain ⟨g, rfl⟩ := oc.addr (by omega)
  have hg := (oc.lt _ rfl).1
  simp only [] at hg
  go_wp2_with fail
  go_loopw [38, 9] (fun vi vs wr => ∃ (i : Nat) (s : Int), i ≤ N ∧ vi = .int .i64 (i : Int) ∧ vs = .int .i64 s ∧ 0 ≤ s ∧ s ≤ 7 * (i : Int) ∧ Hid (s = sm (cdN D) i) ∧ w2 = wr) (fun vi _ _ => N - (intOf vi).toNat)
  case atStart => exact ⟨0, 0, by omega, rfl, rfl, by omega, by omega, Lib.hid rfl, rfl⟩
  case round =>
    obtain ⟨i, s, hi, rfl, rfl, hs0, hs1, hS, rfl⟩ := hrel
    by_cases hlt : i < N
    · have q0 : (i : Int) < (N : Int) := by omega
      obtain ⟨y1, _⟩ := oc.gen.cell i 0 hlt
      rw [codeL_get (by rw [HDL.out]; exact hlt)] at y1
      obtain ⟨b1, b2⟩ := cdN_bd HDL.out hlt
      have HS : Hid (sm (cdN D) (i + 1) = sm (cdN D) i + cdN D i) := Lib.hid rfl
      obtain ⟨v, hv⟩ : ∃ v, cdN D i = v := ⟨_, rfl⟩
      rw [hv] at y1 b1 b2 HS
      have d1 : decide (v < 0) = false := by simp; omega
      have d1' : ¬ v < 0 := by omega
      have w6 : IntKind.i64.wrap ((N : Int) - 1 - (i : Int)) = (N : Int) - 1 - (i : Int) := IntWalk.i64_in _ (by omega)
      have d2 : decide ((N : Int) - 1 - (i : Int) < v) = false := by simp; omega
      have d2' : ¬ (N : Int) - 1 - (i : Int) < v := by omega
      have w7 : IntKind.i64.wrap (s + v) = s + v := IntWalk.i64_in _ (by omega)
      have hS2 : Hid (s + v = sm (cdN D) (i + 1)) := Lib.hid (by rw [HS.out, hS.out])
      have hs2 : s + v ≤ 7 * ((i + 1 : Nat) : Int) := by omega
      have hs3 : 0 ≤ s + v := by omega
      clear hv hS
      go_wp2_with fail
      go_roundw
      case rel => first | exact ⟨i + 1, s + v, by omega, by go_num, rfl, hs3, hs2, hS2, by trivial⟩ | ((repeat apply Exists.intro); exact ⟨⟨i + 1, s + v, by omega, by go_num, rfl, hs3, hs2, hS2, by trivial⟩, rfl⟩)
      case measure => (simp [intOf] <;> omega)
    · obtain rfl : i = N := by omega
      have HSS : Hid (s = trn D) := Lib.hid (by rw [code_sum HD.out, HDL.out]; exact hS.out)
      have HF1 := Lib.hid (code_from HD.out HDL.out hN1 hN7)
      have HF2 : Hid (fromR (codeL D) = D) := Lib.hid (by rw [fromR_ok HF1.out, fromL_code HD.out])
      go_wp2_with fail
      refine (From_c oc.isL HF1.out HF2.out).mono ?_
      rintro e w3 ⟨af, nf, cf, rfl, h_F, b3⟩
      have oc3 := oc.below b3
      have hD3 := hD2.below b3
      have k3 := k2.trans (b3.mono k2.size)
      go_wp2_with fail
      refine (same_c h_F hD3).mono ?_
      rintro e w4 ⟨rfl, b4⟩
      have oc4 := oc3.below b4
      have hD4 := hD3.below b4
      have k4 := k3.trans (b4.mono k3.size)
      clear oc oc3 hD2 hD3 h_F b3 b4 k2 k3
      go_wp2_with fail
      refine (turned_set _ _ _ _ _ hD4 HD.out hN7).mono ?_
      rintro e w5 ⟨t, rfl, ht, rfl⟩
      have HTS : Hid (pc t = s) := Lib.hid (by rw [HSS.out]; exact ht.size (by rw [HDL.out]; exact hN7))
      have HTL := Lib.hid ht.lt
      clear ht
      go_wp2_with fail
      refine (size_any t _ HTL.out).mono ?_
      rintro e w6 ⟨rfl, rfl⟩
      rw [HTS.out]
      have e5 : (s != s) = false := by simp
      have hr0 : (0 : Int) < (i : Int) := by omega
      have h1 := Int.emod_nonneg z (b := (i : Int)) (by omega)
      have h2 := Int.emod_lt_of_pos z (b := (i : Int)) hr0
      obtain ⟨q, hq⟩ : ∃ q : Nat, z % (i : Int) = (q : Int) := ⟨(z % (i : Int)).toNat, by omega⟩
      rw [hq] at h1 h2
      have hqi : q < i := by omega
      have hq2 : (q : Int) < (i : Int) := h2
      obtain ⟨x1, f1⟩ := oc4.gen.cell q 0 hqi
      obtain ⟨t0, ht0⟩ : ∃ t, (codeL D).getD q 0 = t := ⟨_, rfl⟩
      rw [ht0] at x1
      have w8 : IntKind.i64.wrap ((i : Int) - (q : Int)) = (i : Int) - (q : Int) := IntWalk.i64_in _ (by omega)
      have oc5 := oc4.set q ((i : Int) - (q : Int)) hqi
      have hb5 := k4.setCell (p := ⟨g, q, none⟩) hg (.int .i64 ((i : Int) - (q : Int)))
      have HF5 := Lib.hid (from_set (z := (i : Int) - (q : Int)) HCL.out hN1 hN7 hqi (.inr (Int.le_refl _)))
      have HF6 : Hid (fromR ((codeL D).set q ((i : Int) - (q : Int))) = []) := Lib.hid (fromR_bad HF5.out (by decide))
      clear h1 h2 oc4 hD4 k4 ht0
      go_wp2_with fail
      obtain ⟨W7, hW7⟩ : ∃ W, w4.setCell ⟨g, q, none⟩ (.int .i64 ((i : Int) - (q : Int))) = W := ⟨_, rfl⟩
      rw [hW7] at oc5 hb5 ⊢
      refine (From_c oc5.isL HF5.out HF6.out).mono ?_
      rintro e w8' ⟨af, nf, cf, rfl, h_F, b8⟩
      have oc6 := oc5.below b8
      have k6 := hb5.trans (b8.mono hb5.size)
      obtain ⟨x2, f2⟩ := oc6.gen.cell q 0 hqi
      obtain ⟨t2, ht2⟩ : ∃ t, ((codeL D).set q ((i : Int) - (q : Int))).getD q 0 = t := ⟨_, rfl⟩
      rw [ht2] at x2
      have oc7 := oc6.set q (-1) hqi
      have hb7 := k6.setCell (p := ⟨g, q, none⟩) hg (.int .i64 (-1))
      have HF7 := Lib.hid (from_set (C := (codeL D).set q ((i : Int) - (q : Int))) (z := -1) (by rw [List.length_set]; exact HCL.out) hN1 hN7 hqi (.inl (by omega)))
      have HF8 : Hid (fromR (((codeL D).set q ((i : Int) - (q : Int))).set q (-1)) = []) := Lib.hid (fromR_bad HF7.out (by decide))
      clear oc5 oc6 hb5 k6 ht2 h_F b8 x1 f1 hW7
      go_wp2_with fail
      refine (From_c oc7.isL HF7.out HF8.out).mono ?_
      rintro e w9 ⟨af, nf, cf, rfl, h_F, b9⟩
      have k9 := hb7.trans (b9.mono hb7.size)
      go_wp2_with fail
      refine (works_any _).mono ?_
      rintro e w10 ⟨rfl, b10⟩
      go_wp2
      go_ret
      exact ⟨rfl, k9.trans (b10.mono k9.size)⟩
end Go.Proofs.Ytmcckngodaeojaa
