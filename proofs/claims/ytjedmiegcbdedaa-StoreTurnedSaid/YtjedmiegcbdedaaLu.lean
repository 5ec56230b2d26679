/- Law of chapter 11: StoreTurned. -/
import Derived.Test.YtjedmiegcbdedaaXl
import Derived.Test.YtjedmiegcbdedaaXh
import Derived.Test.YtjedmiegcbdedaaWv
namespace Go.Proofs.Ytjedmiegcbdedaa
open Go.RowKit Store11

set_option maxHeartbeats 4000000 in
set_option maxRecDepth 100000 in
theorem StoreTurned_l (L : List Value) (hL : LabArg L) (w : World) : Calls Try.prog 14 #[.agg L.toArray] w fun e w' => e = .returned (.bool true) ∧ Below w.heap.size w w' := by
  obtain ⟨N, hN1, hN9, hmade⟩ := hL.2 9 6 (w.alloc (.cells L.toArray 56)) (by omega) (by omega) (by omega) (by omega)
  have HM := Lib.hid hmade
  have hrg := lab_range w L
  have hi56 := Lib.hid (info56 hL.1)
  clear hmade hL
  go_enter Try.func14, Try.ntmps14
  go_wp2_with (first
    | (refine wpList_load_mid rfl 56 (.tmp 1) rfl w.heap.size 0 rfl L _ hrg Try.underlying56 rfl hi56.out ?_)
    | (go_at_call 52; refine (HM.out).mono ?_))
  rintro e w1 ⟨a, c, b, d, D, D2, rfl, h1, z1, k, hchk, z2, z3, z4⟩
  replace k := ((Below.refl _ w).alloc (Nat.le_refl _) (.cells L.toArray 56)).trans (k.mono (by simp))
  clear HM z1 z2 z3 z4 hrg hi56
  obtain ⟨f1, f2, f3, f4, f5, f6⟩ := turned_facts hchk
  have hDl := h1.len
  have F1 := Lib.hid f1
  have F2 := Lib.hid f2
  have F3 := Lib.hid f3
  have F4 := Lib.hid f4
  have F5 := Lib.hid f5
  have F6 := Lib.hid f6
  have HC := Lib.hid hchk
  have hwr : Wf D.reverse := fun x hx => wf_chk hchk x (List.mem_reverse.1 hx)
  have HWR := Lib.hid hwr
  have HL := Lib.hid hDl
  clear f1 f2 f3 f4 f5 f6 hchk hDl hwr
  obtain ⟨u, v, hcn⟩ : ∃ u v, cnR D = (u, v) := ⟨_, _, rfl⟩
  have HCN := Lib.hid hcn
  clear hcn
  have k1 := k.size
  go_wp2_with fail
  refine (Clone_any _ _ _ _ _ h1 hN1 (by omega)).mono ?_
  rintro e w2 ⟨a2, c2, rfl, h2, b2⟩
  have hsz := b2.size
  go_wp2_with fail
  refine (Reverse_any w1.heap.size _ _ _ _ _ h2 hN1 hsz).mono ?_
  rintro e w3 ⟨rfl, h3, b3⟩
  replace b3 := b2.trans b3
  replace h1 := h1.below b3
  replace k := k.trans (b3.mono k1)
  have h2 := h3.isL
  clear b2 b3 h3 k1 hsz
  obtain ⟨R, hR⟩ : ∃ R, D.reverse = R := ⟨_, rfl⟩
  rw [hR] at F1 F2 F3 F4 F5 F6 h2 HWR
  clear hR
  go_wp2_with fail
  refine (Of_c _ _ _ _ h2 F2.out F3.out HWR.out).mono ?_
  rintro e w4 ⟨a3, n3, c3, rfl, h3, b4⟩
  replace h1 := h1.below b4
  replace h2 := h2.below b4
  have k4 := k.size
  replace k := k.trans (b4.mono k4)
  have hn3 := h3.len
  rw [F4.out, HL.out] at hn3
  subst hn3
  clear b4 k4
  go_wp2_with fail
  go_loopw [43] (fun vi wr => ∃ i : Nat, i ≤ N ∧ vi = .int .i64 (i : Int) ∧ IsL wr a N c D ∧ IsL wr a2 N c2 R ∧ IsL wr a3 N c3 (divL R) ∧ Below w.heap.size w wr) (fun vi _ => N - (intOf vi).toNat)
  case atStart => exact ⟨0, by omega, rfl, h1, h2, h3, k⟩
  case round =>
    clear h1 h2 h3 k
    obtain ⟨i, hi, rfl, h1, h2, h3, k⟩ := hrel
    by_cases hlt : i < N
    · have q1 : (i : Int) < (N : Int) := by omega
      go_wp2_with fail
      go_loopw [47] (fun vi wr => ∃ j : Nat, j ≤ i ∧ vi = .int .i64 (j : Int) ∧ IsL wr a N c D ∧ IsL wr a2 N c2 R ∧ IsL wr a3 N c3 (divL R) ∧ Below w.heap.size w wr) (fun vi _ => i - (intOf vi).toNat)
      case atStart => exact ⟨0, by omega, rfl, h1, h2, h3, k⟩
      case round =>
        clear h1 h2 h3 k
        obtain ⟨j, hj, rfl, h1, h2, h3, k⟩ := hrel
        by_cases hjt : j < i
        · have q2 : (j : Int) < (i : Int) := by omega
          have q3 : (j : Int) < (N : Int) := by omega
          obtain ⟨p2, o2, rfl, _, g2⟩ := h2.cells (by omega)
          obtain ⟨p3, o3, rfl, _, g3⟩ := h3.cells (by omega)
          have x1 := g2 i hlt
          have x2 := g2 j (by omega)
          have x3 := g3 i hlt
          have x4 := g3 j (by omega)
          have hiff := F6.out i j (by rw [HL.out]; exact hlt) (by rw [HL.out]; omega)
          obtain ⟨u1, hu1⟩ : ∃ u, R.getD i 0 = u := ⟨_, rfl⟩
          obtain ⟨u2, hu2⟩ : ∃ u, R.getD j 0 = u := ⟨_, rfl⟩
          obtain ⟨u3, hu3⟩ : ∃ u, (divL R).getD i 0 = u := ⟨_, rfl⟩
          obtain ⟨u4, hu4⟩ : ∃ u, (divL R).getD j 0 = u := ⟨_, rfl⟩
          rw [hu1] at x1 hiff
          rw [hu2] at x2 hiff
          rw [hu3] at x3 hiff
          rw [hu4] at x4 hiff
          clear hu1 hu2 hu3 hu4 g2 g3
          by_cases hu : u1 = u2
          · obtain rfl := hu
            obtain rfl := hiff.2 rfl
            have e1 : (u1 == u1) = true := by simp
            have e2 : (u3 == u3) = true := by simp
            clear hiff
            go_wp2_with fail
            go_quiet (fail)
            go_wp2
            go_roundw
            case rel => first | exact ⟨j + 1, by omega, by go_num, h1.drewN _, h2.drewN _, h3.drewN _, belowN k _⟩ | ((repeat apply Exists.intro); exact ⟨⟨j + 1, by omega, by go_num, h1.drewN _, h2.drewN _, h3.drewN _, belowN k _⟩, rfl⟩)
            case measure => (simp [intOf] <;> omega)
          · have e1 : (u1 == u2) = false := by simpa using hu
            have e2 : (u3 == u4) = false := by simpa using fun e => hu (hiff.1 e)
            clear hiff hu
            go_wp2_with fail
            go_quiet (fail)
            go_wp2
            go_roundw
            case rel => first | exact ⟨j + 1, by omega, by go_num, h1.drewN _, h2.drewN _, h3.drewN _, belowN k _⟩ | ((repeat apply Exists.intro); exact ⟨⟨j + 1, by omega, by go_num, h1.drewN _, h2.drewN _, h3.drewN _, belowN k _⟩, rfl⟩)
            case measure => (simp [intOf] <;> omega)
        · obtain rfl : j = i := by omega
          go_wp2
          go_roundw
          case rel => first | exact ⟨j + 1, by omega, by go_num, h1, h2, h3, k⟩ | ((repeat apply Exists.intro); exact ⟨⟨j + 1, by omega, by go_num, h1, h2, h3, k⟩, rfl⟩)
          case measure => (simp [intOf] <;> omega)
    · obtain rfl : i = N := by omega
      have tu : (u == u) = true := by simp
      have tv : (v == v) = true := by simp
      have HW := Lib.hid (wf_chk HC.out)
      have HW2 := Lib.hid (wf_chk F1.out)
      have k5 := k.size
      go_wp2_with fail
      refine (Arcs_c _ _ _ _ h1 (show cnL D = (u, v) by rw [cnL, if_pos HC.out, HCN.out]) HC.out HW.out).mono ?_
      rintro e w5 ⟨rfl, b5⟩
      replace h1 := h1.below b5
      replace h3 := h3.below b5
      replace k := k.trans (b5.mono k5)
      clear b5 k5
      have k5 := k.size
      go_wp2_with fail
      refine (Arcs_c _ _ _ _ h3 (show cnL (divL R) = (u, v) by rw [cnL, if_pos F1.out, F5.out, HCN.out]) F1.out HW2.out).mono ?_
      rintro e w6 ⟨rfl, b5⟩
      replace h1 := h1.below b5
      replace k := k.trans (b5.mono k5)
      clear b5 k5
      have k5 := k.size
      have HX : Hid (cnX D = (u, v)) := Lib.hid (by rw [cnX_cnR, HCN.out])
      go_wp2_with fail
      refine (larcs_any _ _ _ _ _ h1 (by omega)).mono ?_
      rintro e w7 ⟨rfl, b5⟩
      rw [HX.out]
      replace k := k.trans (b5.mono k5)
      clear b5 k5
      have k5 := k.size
      go_wp2_with fail
      refine (works_any _).mono ?_
      rintro e w8 ⟨rfl, b5⟩
      replace k := k.trans (b5.mono k5)
      go_wp2
      go_ret
      exact ⟨rfl, k⟩
end Go.Proofs.Ytjedmiegcbdedaa
