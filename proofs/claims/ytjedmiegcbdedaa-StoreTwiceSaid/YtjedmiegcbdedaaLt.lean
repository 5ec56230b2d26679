/- Law of chapter 11: StoreTwice. -/
import Derived.Test.YtjedmiegcbdedaaXl
import Derived.Test.YtjedmiegcbdedaaXi
import Derived.Test.YtjedmiegcbdedaaPv
import Derived.Test.YtjedmiegcbdedaaWv
namespace Go.Proofs.Ytjedmiegcbdedaa
open Go.RowKit Store11

set_option maxHeartbeats 4000000 in
set_option maxRecDepth 100000 in
theorem StoreTwice_l (L : List Value) (hL : LabArg L) (w : World) : Calls Try.prog 10 #[.agg L.toArray] w fun e w' => e = .returned (.bool true) ∧ Below w.heap.size w w' := by
  obtain ⟨N, hN1, hN9, hmade⟩ := hL.2 9 5 (w.alloc (.cells L.toArray 56)) (by omega) (by omega) (by omega) (by omega)
  have HM := Lib.hid hmade
  have hrg := lab_range w L
  have hi56 := Lib.hid (info56 hL.1)
  clear hmade hL
  go_enter Try.func10, Try.ntmps10
  go_wp2_with (first
    | (refine wpList_load_mid rfl 56 (.tmp 1) rfl w.heap.size 0 rfl L _ hrg Try.underlying56 rfl hi56.out ?_)
    | (go_at_call 52; refine (HM.out).mono ?_))
  rintro e w1 ⟨a, c, b, d, D, E, rfl, h_D, h_E, k, hchk, hchk2, z3, z4⟩
  replace k := ((Below.refl _ w).alloc (Nat.le_refl _) (.cells L.toArray 56)).trans (k.mono (by simp))
  clear HM z3 z4 hrg hi56
  obtain ⟨f1, f2, f3⟩ := flatL_ok hchk
  have hDl := h_D.len
  have F0 : Hid (∀ i, i < D.length → 0 ≤ D.getD i 0) := Lib.hid (fun i hi => (chkL_bound hchk i hi).1)
  obtain ⟨F, hF⟩ : ∃ F, flatL D = F := ⟨_, rfl⟩
  rw [hF] at f1 f2 f3
  have HF := Lib.hid hF
  clear hF
  obtain ⟨g1, g2, g3, g4⟩ := gapL_eq f2 f3
  obtain ⟨G, hG⟩ : ∃ G, divL (gapK F) = G := ⟨_, rfl⟩
  rw [hG] at g2 g3 g4
  have hgx : NoC G := hG ▸ (gap_flat f2 f3)
  obtain ⟨t1, t2, t3, t4⟩ := gapL_eq g4 hgx
  have htw := twice_iff f2 f3
  rw [hG] at htw
  obtain ⟨T, hT⟩ : ∃ T, divL (gapK G) = T := ⟨_, rfl⟩
  rw [hT] at t2 t3 t4 htw
  rw [f1, hDl] at htw
  have HTW := Lib.hid htw
  have G1 := Lib.hid g1
  have G2 := Lib.hid g2
  have WF := Lib.hid (wf_chk f2)
  have WG := Lib.hid (wf_chk g4)
  have T1 := Lib.hid t1
  have T2 := Lib.hid t2
  have lF : Hid (F.length = N) := Lib.hid (by rw [f1, hDl])
  have lG : Hid (G.length = N) := Lib.hid (by rw [g3, f1, hDl])
  have lT : Hid (T.length = N) := Lib.hid (by rw [t3, g3, f1, hDl])
  clear hchk hchk2 h_E f1 f2 f3 g1 g2 g3 g4 hgx t1 t2 t3 t4 htw hG hT hDl
  have kk := k.size
  go_wp2_with fail
  refine (flatten_any _ _ _ _ _ h_D (by omega) F0.out).mono ?_
  rintro e w2 ⟨af, cf, rfl, h_F, b_⟩
  replace h_D := h_D.below b_
  replace k := k.trans (b_.mono kk)
  clear b_ kk
  clear h_D
  rw [HF.out] at h_F
  have kk := k.size
  go_wp2_with fail
  refine (Gaps_c _ _ _ _ h_F G2.out G1.out WF.out).mono ?_
  rintro e w3 ⟨ag, ng, cg, rfl, h_G, b_⟩
  replace h_F := h_F.below b_
  replace k := k.trans (b_.mono kk)
  clear b_ kk
  obtain rfl : ng = N := by rw [← h_G.len, lG.out]
  have kk := k.size
  go_wp2_with fail
  refine (Gaps_c _ _ _ _ h_G T2.out T1.out WG.out).mono ?_
  rintro e w4 ⟨at_, nt, ct, rfl, h_T, b_⟩
  replace h_F := h_F.below b_
  replace h_G := h_G.below b_
  replace k := k.trans (b_.mono kk)
  clear b_ kk
  clear h_G
  obtain rfl : nt = ng := by rw [← h_T.len, lT.out]
  go_wp2_with fail
  go_loopw [45] (fun vi wr => ∃ i : Nat, i ≤ nt ∧ vi = .int .i64 (i : Int) ∧ IsL wr af nt cf F ∧ IsL wr at_ nt ct T ∧ Below w.heap.size w wr) (fun vi _ => nt - (intOf vi).toNat)
  case atStart => exact ⟨0, by omega, rfl, h_F, h_T, k⟩
  case round =>
    clear h_F h_T k
    obtain ⟨i, hi, rfl, h1, h2, k⟩ := hrel
    by_cases hlt : i < nt
    · have q1 : (i : Int) < (nt : Int) := by omega
      go_wp2_with fail
      go_loopw [49] (fun vi wr => ∃ j : Nat, j ≤ i ∧ vi = .int .i64 (j : Int) ∧ IsL wr af nt cf F ∧ IsL wr at_ nt ct T ∧ Below w.heap.size w wr) (fun vi _ => i - (intOf vi).toNat)
      case atStart => exact ⟨0, by omega, rfl, h1, h2, k⟩
      case round =>
        clear h1 h2 k
        obtain ⟨j, hj, rfl, h1, h2, k⟩ := hrel
        by_cases hjt : j < i
        · have q2 : (j : Int) < (i : Int) := by omega
          have q3 : (j : Int) < (nt : Int) := by omega
          obtain ⟨p1, o1, rfl, _, g1⟩ := h1.cells (by omega)
          obtain ⟨p2, o2, rfl, _, g2⟩ := h2.cells (by omega)
          have hI : (i + 1) % nt < nt := Nat.mod_lt _ (by omega)
          have hJ : (j + 1) % nt < nt := Nat.mod_lt _ (by omega)
          have x1 := g1 _ hI
          have x2 := g1 _ hJ
          have x3 := g2 i hlt
          have x4 := g2 j (by omega)
          have hiff := HTW.out j i hjt hlt
          have m1 : ((i : Int) + 1) % (nt : Int) = (((i + 1) % nt : Nat) : Int) := by push_cast; rfl
          have m2 : ((j : Int) + 1) % (nt : Int) = (((j + 1) % nt : Nat) : Int) := by push_cast; rfl
          obtain ⟨I, hII⟩ : ∃ I, (i + 1) % nt = I := ⟨_, rfl⟩
          obtain ⟨J, hJJ⟩ : ∃ J, (j + 1) % nt = J := ⟨_, rfl⟩
          rw [hII] at x1 m1 hiff hI
          rw [hJJ] at x2 m2 hiff hJ
          obtain ⟨u1, hu1⟩ : ∃ u, F.getD I 0 = u := ⟨_, rfl⟩
          obtain ⟨u2, hu2⟩ : ∃ u, F.getD J 0 = u := ⟨_, rfl⟩
          obtain ⟨u3, hu3⟩ : ∃ u, T.getD i 0 = u := ⟨_, rfl⟩
          obtain ⟨u4, hu4⟩ : ∃ u, T.getD j 0 = u := ⟨_, rfl⟩
          rw [hu1] at x1 hiff
          rw [hu2] at x2 hiff
          rw [hu3] at x3 hiff
          rw [hu4] at x4 hiff
          have q4 : (I : Int) < (nt : Int) := by omega
          have q5 : (J : Int) < (nt : Int) := by omega
          have q6 : (0 : Int) < (nt : Int) := by omega
          have q7 : ¬ (nt : Int) = 0 := by omega
          have s1 : IntKind.i64.wrap ((i : Int) + 1) = (i : Int) + 1 := IntWalk.i64_in _ (by omega)
          have s2 : IntKind.i64.wrap ((j : Int) + 1) = (j : Int) + 1 := IntWalk.i64_in _ (by omega)
          clear hu1 hu2 hu3 hu4 g1 g2 hII hJJ
          by_cases hu : u1 = u2
          · obtain rfl := hu
            obtain rfl := hiff.2 rfl
            have e1 : (u1 == u1) = true := by simp
            have e2 : (u4 == u4) = true := by simp
            clear hiff
            go_wp2_with fail
            go_quiet (fail)
            go_wp2
            go_roundw
            case rel => first | exact ⟨j + 1, by omega, by go_num, h1.drewN _, h2.drewN _, belowN k _⟩ | ((repeat apply Exists.intro); exact ⟨⟨j + 1, by omega, by go_num, h1.drewN _, h2.drewN _, belowN k _⟩, rfl⟩)
            case measure => (simp [intOf] <;> omega)
          · have e1 : (u1 == u2) = false := by simpa using hu
            have e2 : (u3 == u4) = false := by simpa using fun e => hu (hiff.1 e.symm).symm
            clear hiff hu
            go_wp2_with fail
            go_quiet (fail)
            go_wp2
            go_roundw
            case rel => first | exact ⟨j + 1, by omega, by go_num, h1.drewN _, h2.drewN _, belowN k _⟩ | ((repeat apply Exists.intro); exact ⟨⟨j + 1, by omega, by go_num, h1.drewN _, h2.drewN _, belowN k _⟩, rfl⟩)
            case measure => (simp [intOf] <;> omega)
        · obtain rfl : j = i := by omega
          go_wp2
          go_roundw
          case rel => first | exact ⟨j + 1, by omega, by go_num, h1, h2, k⟩ | ((repeat apply Exists.intro); exact ⟨⟨j + 1, by omega, by go_num, h1, h2, k⟩, rfl⟩)
          case measure => (simp [intOf] <;> omega)
    · obtain rfl : i = nt := by omega
      have k5 := k.size
      go_wp2_with fail
      refine (works_any _).mono ?_
      rintro e w8 ⟨rfl, b5⟩
      replace k := k.trans (b5.mono k5)
      go_wp2
      go_ret
      exact ⟨rfl, k⟩
end Go.Proofs.Ytjedmiegcbdedaa
