/- Law of chapter 11: StoreFlat. -/
import Derived.Test.YtjedmiegcbdedaaXl
import Derived.Test.YtjedmiegcbdedaaXi
import Derived.Test.YtjedmiegcbdedaaPv
import Derived.Test.YtjedmiegcbdedaaWv
namespace Go.Proofs.Ytjedmiegcbdedaa
open Go.RowKit Store11

set_option maxHeartbeats 4000000 in
set_option maxRecDepth 100000 in
theorem StoreFlat_l (L : List Value) (hL : LabArg L) (w : World) : Calls Try.prog 12 #[.agg L.toArray] w fun e w' => e = .returned (.bool true) ∧ Below w.heap.size w w' := by
  obtain ⟨N, hN1, hN9, hmade⟩ := hL.2 9 4 (w.alloc (.cells L.toArray 56)) (by omega) (by omega) (by omega) (by omega)
  have HMM := Lib.hid hmade
  have hrg := lab_range w L
  have hi56 := Lib.hid (info56 hL.1)
  clear hmade hL
  go_enter Try.func12, Try.ntmps12
  go_wp2_with (first
    | (refine wpList_load_mid rfl 56 (.tmp 1) rfl w.heap.size 0 rfl L _ hrg Try.underlying56 rfl hi56.out ?_)
    | (go_at_call 52; refine (HMM.out).mono ?_))
  rintro e w1 ⟨a, c, b, d, D, E, rfl, h_D, h_E, k, hchk, hchk2, z3, z4⟩
  replace k := ((Below.refl _ w).alloc (Nat.le_refl _) (.cells L.toArray 56)).trans (k.mono (by simp))
  clear HMM z3 z4 hrg hi56
  obtain ⟨a1, a2, a3⟩ := flatL_ok hchk
  obtain ⟨b1, b2, b3⟩ := flatL_ok hchk2
  have hDl := h_D.len
  have hEl := h_E.len
  have F0 : Hid (∀ i, i < D.length → 0 ≤ D.getD i 0) := Lib.hid (fun i hi => (chkL_bound hchk i hi).1)
  have F1 : Hid (∀ i, i < E.length → 0 ≤ E.getD i 0) := Lib.hid (fun i hi => (chkL_bound hchk2 i hi).1)
  obtain ⟨A, hA⟩ : ∃ A, flatL D = A := ⟨_, rfl⟩
  obtain ⟨B, hB⟩ : ∃ B, flatL E = B := ⟨_, rfl⟩
  rw [hA] at a1 a2 a3
  rw [hB] at b1 b2 b3
  have HA := Lib.hid hA
  have HB := Lib.hid hB
  have hab := both_of a2 b2 (by omega)
  obtain ⟨m1, m2, m3, m4⟩ := meet_flat hab a3 b3
  obtain ⟨M, hM⟩ : ∃ M, meetR A B = M := ⟨_, rfl⟩
  rw [hM] at m1 m2 m3 m4
  have HM : Hid (meetL A B = M) := Lib.hid (by rw [meetL, if_pos hab, hM])
  have HAB := Lib.hid hab
  obtain ⟨u1, u2, u3, u4⟩ := gapL_eq a2 a3
  obtain ⟨v1, v2, v3, v4⟩ := gapL_eq m3 m1
  have hmx := (flat_iff M).2 m1
  obtain ⟨cc, hcc⟩ : ∃ cc, (cnR M).2 = cc := ⟨_, rfl⟩
  have CM : Hid (cnL M = (0, cc)) := Lib.hid (by rw [cnL, if_pos m3, ← hmx, ← hcc])
  have hfin := gap_coarser a2 m3 m2 (fun i k hi hk e => ((m4 i k hi hk).1 e).1)
  obtain ⟨U, hU⟩ : ∃ U, divL (gapK A) = U := ⟨_, rfl⟩
  obtain ⟨V, hV⟩ : ∃ V, divL (gapK M) = V := ⟨_, rfl⟩
  rw [hU] at u2 u3 u4 hfin
  rw [hV] at v2 v3 v4 hfin
  have huv := both_of u4 v4 (by omega)
  have hma := both_of m3 a2 (by omega)
  have FU : Hid (finerB U V = true) := Lib.hid (finer_true huv (fun i k hi hk => hfin i k (by omega) (by omega)))
  have FM : Hid (finerB M A = true) := Lib.hid (finer_true hma (fun i k hi hk e => ((m4 i k (by omega) (by omega)).1 e).1))
  have HUV := Lib.hid huv
  have HMA := Lib.hid hma
  have U1 := Lib.hid u1
  have U2 := Lib.hid u2
  have V1 := Lib.hid v1
  have V2 := Lib.hid v2
  have M3 := Lib.hid m3
  have WA := Lib.hid (wf_chk a2)
  have WB := Lib.hid (wf_chk b2)
  have WM := Lib.hid (wf_chk m3)
  have WU := Lib.hid (wf_chk u4)
  have WV := Lib.hid (wf_chk v4)
  have lM : Hid (M.length = N) := Lib.hid (by rw [m2, a1, hDl])
  clear hchk hchk2 a1 a2 a3 b1 b2 b3 hDl hEl hA hB hab m1 m2 m3 m4 hM u1 u2 u3 u4 v1 v2 v3 v4 hmx hcc hfin hU hV huv hma
  have kk := k.size
  go_wp2_with fail
  refine (flatten_any _ _ _ _ _ h_D (by omega) F0.out).mono ?_
  rintro e w2 ⟨aa, ca, rfl, h_A, b_⟩
  replace h_D := h_D.below b_
  replace h_E := h_E.below b_
  replace k := k.trans (b_.mono kk)
  clear b_ kk
  clear h_D
  rw [HA.out] at h_A
  have kk := k.size
  go_wp2_with fail
  refine (flatten_any _ _ _ _ _ h_E (by omega) F1.out).mono ?_
  rintro e w3 ⟨ab, cb, rfl, h_B, b_⟩
  replace h_E := h_E.below b_
  replace h_A := h_A.below b_
  replace k := k.trans (b_.mono kk)
  clear b_ kk
  clear h_E
  rw [HB.out] at h_B
  have kk := k.size
  go_wp2_with fail
  refine (Meet_c _ _ _ _ _ _ _ h_A h_B HM.out HAB.out WA.out WB.out).mono ?_
  rintro e w4 ⟨am, nm, cm, rfl, h_M, b_⟩
  replace h_A := h_A.below b_
  replace h_B := h_B.below b_
  replace k := k.trans (b_.mono kk)
  clear b_ kk
  clear h_B
  obtain rfl : nm = N := by rw [← h_M.len, lM.out]
  have kk := k.size
  go_wp2_with fail
  refine (Arcs_c _ _ _ _ h_M CM.out M3.out WM.out).mono ?_
  rintro e w5 ⟨rfl, b_⟩
  replace h_A := h_A.below b_
  replace h_M := h_M.below b_
  replace k := k.trans (b_.mono kk)
  clear b_ kk
  have kk := k.size
  go_wp2_with fail
  refine (Gaps_c _ _ _ _ h_A U2.out U1.out WA.out).mono ?_
  rintro e w6 ⟨au, nu, cu, rfl, h_U, b_⟩
  replace h_A := h_A.below b_
  replace h_M := h_M.below b_
  replace k := k.trans (b_.mono kk)
  clear b_ kk
  have kk := k.size
  go_wp2_with fail
  refine (Gaps_c _ _ _ _ h_M V2.out V1.out WM.out).mono ?_
  rintro e w7 ⟨av, nv, cv, rfl, h_V, b_⟩
  replace h_A := h_A.below b_
  replace h_M := h_M.below b_
  replace h_U := h_U.below b_
  replace k := k.trans (b_.mono kk)
  clear b_ kk
  have kk := k.size
  go_wp2_with fail
  refine (Finer_c _ _ _ _ _ _ _ h_U h_V FU.out HUV.out WU.out WV.out).mono ?_
  rintro e w8 ⟨rfl, b_⟩
  replace h_A := h_A.below b_
  replace h_M := h_M.below b_
  replace h_U := h_U.below b_
  replace h_V := h_V.below b_
  replace k := k.trans (b_.mono kk)
  clear b_ kk
  clear h_U
  clear h_V
  have kk := k.size
  go_wp2_with fail
  refine (Finer_c _ _ _ _ _ _ _ h_M h_A FM.out HMA.out WM.out WA.out).mono ?_
  rintro e w9 ⟨rfl, b_⟩
  replace h_A := h_A.below b_
  replace h_M := h_M.below b_
  replace k := k.trans (b_.mono kk)
  clear b_ kk
  clear h_M
  clear h_A
  have kk := k.size
  go_wp2_with fail
  refine (works_any _).mono ?_
  rintro e w10 ⟨rfl, b_⟩
  replace k := k.trans (b_.mono kk)
  clear b_ kk
  go_wp2
  go_ret
  exact ⟨rfl, k⟩
end Go.Proofs.Ytjedmiegcbdedaa
