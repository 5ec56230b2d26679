/- Walks of the references of chapter 11: At. -/
import Derived.Test.YtjedmiegcbdedaaRc
import Derived.Test.YtjedmiegcbdedaaPg
namespace Go.Proofs.Ytjedmiegcbdedaa
open Go.RowKit Store11

set_option maxHeartbeats 4000000 in
set_option maxRecDepth 100000 in
theorem rAt_any (n num : Int) (w : World) : Calls Try.prog 28 #[.int .i64 n, .int .i64 num] w fun e w' => ∃ a m c, e = .returned (.tuple #[.slice a m c, .int .i64 (atE n num)]) ∧ IsL w' a m c (atL n num) ∧ Below w.heap.size w w' := by
  by_cases hn : 1 ≤ n ∧ n ≤ 9
  · have hce : countE n = 0 := by rw [countE, if_pos hn]
    obtain ⟨B, rfl⟩ : ∃ B : Nat, n = B := ⟨n.toNat, by omega⟩
    have hcv : countV (B : Int) = countN B := by rw [countV, if_pos hn]; rfl
    have HCE := Lib.hid hce
    have HCV := Lib.hid hcv
    have hB : 1 ≤ B ∧ B ≤ 9 := by omega
    have hsm := (rowN_small B (by omega)).2.1 11 (by omega)
    rw [List.take_of_length_le (by rw [(rowN_small B (by omega)).1]; exact Nat.le_refl _)] at hsm
    change 0 ≤ countN B ∧ countN B ≤ 100000 at hsm
    by_cases hk : 0 ≤ num ∧ num < countN B
    · have HE : Hid (atE (B : Int) num = 0) := Lib.hid (by rw [atE, if_pos ⟨hn, hk⟩])
      have HA : Hid (([] : List Int) ++ atG B num 0 = atL (B : Int) num) := Lib.hid (by rw [atL, if_pos HE.out]; rfl)
      have hnum : 0 ≤ num ∧ num ≤ 100000 := by omega
      have hlt0 : num < endN 0 B := by rw [endN_zero B (by omega)]; exact hk.2
      have HLT0 := Lib.hid hlt0
      have hk2 : num ≤ countN B - 1 := by omega
      have HK0 := hk.1
      clear hce hcv hn hk hlt0
      generalize countN B = CN at *
      go_enter Try.func28, Try.ntmps28
      go_wp2_with fail
      refine (rCount_any _ _).mono ?_
      rintro e w' ⟨rfl, rfl⟩
      rw [HCE.out, HCV.out]
      go_wp2_with fail
      refine (in_yes _ _ _ _ HK0 hk2).mono ?_
      rintro e w' ⟨rfl, rfl⟩
      go_wp2_with fail
      go_loopw [1, 8] (fun vn vo wr => ∃ (m k : Nat) (x : Int) (a : Option Addr) (j c : Nat) (out : List Int), k + m ≤ 9 ∧ j + m ≤ B ∧ B ≤ j + m ∧ 0 ≤ x ∧ x ≤ 100000 ∧ vn = .int .i64 x ∧ vo = .slice a j c ∧ Hid (x < endN k m) ∧ Hid (manyL out = (k : Int)) ∧ Hid (∀ i, i < j → 0 ≤ out.getD i 0 ∧ out.getD i 0 ≤ 100) ∧ Hid (out ++ atG m x k = atL (B : Int) num) ∧ Hid (OwnL wr 3 w.heap.size a j c out) ∧ Below w.heap.size w wr) (fun _ vo _ => 20 - lenOf vo)
      case atStart => exact ⟨B, 0, num, none, 0, 0, [], by omega, by omega, by omega, by omega, by omega, rfl, rfl, HLT0, Lib.hid (by simp [manyL]), Lib.hid (fun i hi => by omega), HA, Lib.hid (OwnL.nilL _ _ _), Below.refl _ _⟩
      case round =>
        clear HLT0 HA hnum hk2 HK0
        obtain ⟨m, k, x, a, j, c, out, hkm, hj1, hj2, hx0, hx1, rfl, rfl, hlt, hM, hBd, hA, hO, hb⟩ := hrel
        by_cases hm0 : 0 < m
        · obtain ⟨m, rfl⟩ : ∃ m', m = m' + 1 := ⟨m - 1, by omega⟩
          have he := endN_small k (by omega) m (by omega) (by omega)
          have he2 := endN_small (k + 1) (by omega) m (by omega) (by omega)
          have hrec := endN_rec m (by omega) k (by omega) (by omega)
          have hie := intoR_end m (by omega) k (by omega) (by omega)
          have hie2 := intoR_end m (by omega) (k + 1) (by omega) (by omega)
          have hxl := hlt.out
          rw [hrec] at hxl
          have hstep : atG (m + 1) x k = min (x / endN k m) k :: atG m (x - min (x / endN k m) k * endN k m) (if min (x / endN k m) (k : Int) = k then k + 1 else k) := rfl
          obtain ⟨each, hea⟩ : ∃ each, endN k m = each := ⟨_, rfl⟩
          obtain ⟨more, hmo⟩ : ∃ more, endN (k + 1) m = more := ⟨_, rfl⟩
          have HEA := Lib.hid hea
          have HMO := Lib.hid hmo
          rw [hea] at he hxl hie hstep
          rw [hmo] at he2 hxl hie2
          have HXL : Hid (x < (k : Int) * each + more) := Lib.hid hxl
          have HST := Lib.hid hstep
          have HI1 : Hid (∀ z : Int, z = (m : Int) → intoR (k : Int) z.toNat (-1) = each) := Lib.hid (fun z hz => by rw [hz, show ((m : Int)).toNat = m by omega]; exact hie)
          have HI2 : Hid (∀ z : Int, z = (m : Int) → intoR ((k : Int) + 1) z.toNat (-1) = more) := Lib.hid (fun z hz => by rw [hz, show ((m : Int)).toNat = m by omega]; exact hie2)
          have hd9 : decide (j < B) = true := by simp; omega
          have hjl := hO.out.len
          have HJL := Lib.hid hjl
          clear hrec hxl hstep hie hie2 hea hmo hjl hlt
          go_wp2_with fail
          go_loopw [1, 9] (fun vn vr wr => ∃ (ρ : Nat) (y : Int), ρ ≤ k ∧ vr = .int .i64 (ρ : Int) ∧ vn = .int .i64 y ∧ 0 ≤ y ∧ y ≤ 100000 ∧ Hid (y = x - (ρ : Int) * each) ∧ Hid (OwnL wr 3 w.heap.size a j c out) ∧ Below w.heap.size w wr) (fun _ vr _ => 100 - (intOf vr).toNat)
          case atStart => exact ⟨0, x, by omega, rfl, rfl, hx0, hx1, Lib.hid (by simp), hO, hb⟩
          case round =>
            clear hO hb
            obtain ⟨ρ, y, hρ, rfl, rfl, hy0, hy1, hY, hO, hb⟩ := hrel
            have hsz := hb.size
            have o0 := own_lit wr 3 w.heap.size hsz ([] : List Int) #[] 0 rfl rfl (by omega)
            have hIO := (hO.out.isL).alloc (.cells #[] 3)
            have hOlt : ∀ x, a = some x → x.block < wr.heap.size := fun x hx => (hO.out.lt x hx).2
            have HOLT := Lib.hid hOlt
            clear hOlt
            go_wp2_with (at_builtin; refine wl_app_own Try.underlying22 elem3 w.heap.size (.tmp 33) (.tmp 34) rfl rfl rfl rfl o0 hIO (by simp; omega) (by omega) ?_)
            intro a2 c2 w2 o2 hg2 hb2 hv2
            have hO2 := Lib.hid ((hO.out.alloc (.cells #[] 3)).grown hg2 (by
              rintro x y hx hy; cases hy
              have := (hO.out.lt x hx).2; simp; omega))
            have k2 := (hb.alloc hsz (.cells #[] 3)).trans hb2
            have hsz2 := k2.size
            clear hg2 hb2 o0 hIO hO
            have hs2 : Sep a a2 := fun x y hx hy e => by
              have h1 := HOLT.out x hx
              rcases hv2 y hy with ⟨z, hz, hzy⟩ | h
              · cases hz; simp at hzy; omega
              · simp at h; omega
            clear hv2
            go_wp2_with (at_builtin; refine wl_app_own Try.underlying22 elem3 w.heap.size (.tmp 35) (.tmp 37) rfl rfl rfl rfl (o2.alloc _) (isL_one _ _ _) (by simp; omega) (by omega) ?_)
            intro a3 c3 w3 o3 hg3 hb3 hv3
            have k3 := (k2.alloc hsz2 (.cells #[.int .i64 (ρ : Int)] 3)).trans hb3
            have hO3 := Lib.hid ((hO2.out.alloc (.cells #[.int .i64 (ρ : Int)] 3)).grown hg3 hs2)
            have i3 := o3.isL
            have HB3 : Hid (∀ i, i < j + 1 → -1000000 ≤ (out ++ [(ρ : Int)]).getD i 0 ∧ (out ++ [(ρ : Int)]).getD i 0 ≤ 1000000) := Lib.hid (fun i hi => by
              by_cases hij : i < j
              · have e : (out ++ [(ρ : Int)]).getD i 0 = out.getD i 0 := by rw [List.getD, List.getElem?_append_left (by rw [HJL.out]; exact hij), ← List.getD]
                rw [e]; have := hBd.out i hij; omega
              · have e : (out ++ [(ρ : Int)]).getD i 0 = (ρ : Int) := by rw [List.getD, List.getElem?_append_right (by rw [HJL.out]; omega), HJL.out, show i - j = 0 by omega]; rfl
                rw [e]; omega)
            clear o2 o3 hg3 hb3 hv3 hO2 hs2
            rcases Nat.lt_or_ge ρ k with hρk | hρk
            · have HML : Hid (manyL (out ++ [(ρ : Int)]) = (k : Int)) := Lib.hid (by rw [manyL_snoc, hM.out]; omega)
              go_wp2_with fail
              refine (many_any _ _ _ _ _ i3 HB3.out).mono ?_
              rintro e w' ⟨rfl, rfl⟩
              rw [HML.out]
              go_wp2_with fail
              refine (rinto_c _ _ _ each _ (by omega) (by omega) (by omega) (HI1.out _ (by omega))).mono ?_
              rintro e w' ⟨rfl, rfl⟩
              clear i3
              by_cases hye : y < each
              · have HLT2 : Hid (y < endN k m) := Lib.hid (by rw [HEA.out]; exact hye)
                have hs9 := hO3.out
                have hsz3 := k3.size
                have HA2 : Hid ((out ++ [(ρ : Int)]) ++ atG m y k = atL (B : Int) num) := Lib.hid (by
                  have hmr := min_room (num := x) (each := each) (k := k) (ρ := ρ) (by omega) hρ (by have := hY.out; omega) (fun h => by have := hY.out; omega)
                  rw [← hA.out, HST.out, hmr, ← hY.out]
                  rw [if_neg (by omega)]
                  rw [List.append_assoc]; rfl)
                have HM3 : Hid (manyL (out ++ [(ρ : Int)]) = ((k : Nat) : Int)) := Lib.hid (by rw [manyL_snoc, hM.out]; omega)
                have HB9 : Hid (∀ i, i < j + 1 → 0 ≤ (out ++ [(ρ : Int)]).getD i 0 ∧ (out ++ [(ρ : Int)]).getD i 0 ≤ 100) := Lib.hid (fun i hi => by
                  by_cases hij : i < j
                  · have e : (out ++ [(ρ : Int)]).getD i 0 = out.getD i 0 := by rw [List.getD, List.getElem?_append_left (by rw [HJL.out]; exact hij), ← List.getD]
                    rw [e]; exact hBd.out i hij
                  · have e : (out ++ [(ρ : Int)]).getD i 0 = (ρ : Int) := by rw [List.getD, List.getElem?_append_right (by rw [HJL.out]; omega), HJL.out, show i - j = 0 by omega]; rfl
                    rw [e]; omega)
                clear hO3
                go_wp2_with (at_builtin; refine wl_app_own Try.underlying22 elem3 w.heap.size (.tmp 54) (.tmp 56) rfl rfl rfl rfl (hs9.alloc _) (isL_one _ _ _) (by simp; omega) (by omega) ?_)
                intro a4 c4 w4 o4 hg4 hb4 hv4
                have hO4 := Lib.hid o4
                have k4 := (k3.alloc hsz3 (.cells #[.int .i64 (ρ : Int)] 3)).trans hb4
                clear hg4 hb4 hv4 o4 hs9
                go_wp2
                go_roundw
                case rel => exact ⟨m, k, y, a4, j + 1, c4, out ++ [(ρ : Int)], by omega, by omega, by omega, by omega, by omega, rfl, rfl, HLT2, HM3, HB9, HA2, hO4, k4⟩
                case measure => simp [lenOf]; omega
              · have HY2 : Hid (y - each = x - ((ρ + 1 : Nat) : Int) * each) := Lib.hid (by
                  rw [hY.out, show ((ρ + 1 : Nat) : Int) = (ρ : Int) + 1 by omega, Int.add_mul, Int.one_mul]; omega)
                clear hY
                go_wp2
                go_roundw
                case rel => first | exact ⟨ρ + 1, y - each, by omega, by go_num, rfl, by omega, by omega, HY2, hO3, k3⟩ | ((repeat apply Exists.intro); exact ⟨⟨ρ + 1, y - each, by omega, by go_num, rfl, by omega, by omega, HY2, hO3, k3⟩, rfl⟩)
                case measure => simp [intOf]; omega
            · obtain rfl : ρ = k := by omega
              have HML : Hid (manyL (out ++ [(ρ : Int)]) = (ρ : Int) + 1) := Lib.hid (by rw [manyL_snoc, hM.out]; omega)
              have hym : y < more := by have h1 := hY.out; have h2 := HXL.out; omega
              have HLT2 : Hid (y < endN (ρ + 1) m) := Lib.hid (by rw [HMO.out]; exact hym)
              go_wp2_with fail
              refine (many_any _ _ _ _ _ i3 HB3.out).mono ?_
              rintro e w' ⟨rfl, rfl⟩
              rw [HML.out]
              go_wp2_with fail
              refine (rinto_c _ _ _ more _ (by omega) (by omega) (by omega) (HI2.out _ (by omega))).mono ?_
              rintro e w' ⟨rfl, rfl⟩
              clear i3
              have hs9 := hO3.out
              have hsz3 := k3.size
              have HA2 : Hid ((out ++ [(ρ : Int)]) ++ atG m y (ρ + 1) = atL (B : Int) num) := Lib.hid (by
                have hmr := min_room (num := x) (each := each) (k := ρ) (ρ := ρ) (by omega) hρ (by have := hY.out; omega) (fun h => by have := hY.out; omega)
                rw [← hA.out, HST.out, hmr, ← hY.out]
                rw [if_pos rfl]
                rw [List.append_assoc]; rfl)
              have HM3 : Hid (manyL (out ++ [(ρ : Int)]) = (((ρ + 1) : Nat) : Int)) := Lib.hid (by rw [manyL_snoc, hM.out]; omega)
              have HB9 : Hid (∀ i, i < j + 1 → 0 ≤ (out ++ [(ρ : Int)]).getD i 0 ∧ (out ++ [(ρ : Int)]).getD i 0 ≤ 100) := Lib.hid (fun i hi => by
                by_cases hij : i < j
                · have e : (out ++ [(ρ : Int)]).getD i 0 = out.getD i 0 := by rw [List.getD, List.getElem?_append_left (by rw [HJL.out]; exact hij), ← List.getD]
                  rw [e]; exact hBd.out i hij
                · have e : (out ++ [(ρ : Int)]).getD i 0 = (ρ : Int) := by rw [List.getD, List.getElem?_append_right (by rw [HJL.out]; omega), HJL.out, show i - j = 0 by omega]; rfl
                  rw [e]; omega)
              clear hO3
              go_wp2_with (at_builtin; refine wl_app_own Try.underlying22 elem3 w.heap.size (.tmp 54) (.tmp 56) rfl rfl rfl rfl (hs9.alloc _) (isL_one _ _ _) (by simp; omega) (by omega) ?_)
              intro a4 c4 w4 o4 hg4 hb4 hv4
              have hO4 := Lib.hid o4
              have k4 := (k3.alloc hsz3 (.cells #[.int .i64 (ρ : Int)] 3)).trans hb4
              clear hg4 hb4 hv4 o4 hs9
              go_wp2
              go_roundw
              case rel => exact ⟨m, (ρ + 1), y, a4, j + 1, c4, out ++ [(ρ : Int)], by omega, by omega, by omega, by omega, by omega, rfl, rfl, HLT2, HM3, HB9, HA2, hO4, k4⟩
              case measure => simp [lenOf]; omega
        · obtain rfl : m = 0 := by omega
          obtain rfl : j = B := by omega
          have HO : Hid (out = atL (j : Int) num) := Lib.hid (by rw [← hA.out]; simp [atG])
          have hI := hO.out.isL
          rw [HO.out] at hI
          clear hA hO
          go_wp2
          go_ret2
          exact ⟨a, j, c, ret_si HE.out.symm, hI, hb⟩
    · have HE : Hid (atE (B : Int) num = 1) := Lib.hid (by rw [atE, if_neg (fun h => hk h.2)])
      have HA : Hid ([] = atL (B : Int) num) := Lib.hid (by rw [atL, if_neg (by rw [HE.out]; omega)])
      have HK : Hid (¬ (0 ≤ num ∧ num ≤ countN B - 1)) := Lib.hid (by omega)
      clear hce hcv hn hk
      generalize countN B = CN at *
      go_enter Try.func28, Try.ntmps28
      go_wp2_with fail
      refine (rCount_any _ _).mono ?_
      rintro e w' ⟨rfl, rfl⟩
      rw [HCE.out, HCV.out]
      go_wp2_with fail
      refine (in_no _ _ _ _ HK.out).mono ?_
      rintro e w' ⟨rfl, rfl⟩
      go_wp2_with fail
      go_ret2
      exact ⟨none, 0, 0, ret_si HE.out.symm, HA.out ▸ IsL.nilL _, Below.refl _ _⟩
  · have hce : countE n = 1 := by rw [countE, if_neg hn]
    have HE : Hid (atE n num = 1) := Lib.hid (by rw [atE, if_neg (fun h => hn h.1)])
    have HA : Hid ([] = atL n num) := Lib.hid (by rw [atL, if_neg (by rw [HE.out]; omega)])
    have HCE := Lib.hid hce
    clear hce hn
    go_enter Try.func28, Try.ntmps28
    go_wp2_with (go_at_call 24; refine (rCount_any _ _).mono ?_; rintro e w1 ⟨rfl, rfl⟩; rw [HCE.out])
    go_ret2
    exact ⟨none, 0, 0, ret_si HE.out.symm, HA.out ▸ IsL.nilL _, Below.refl _ _⟩
end Go.Proofs.Ytjedmiegcbdedaa
