/- Walks of chapter 11: the endings. -/
import Derived.Test.YtjedmiegcbdedaaWj
namespace Go.Proofs.Ytjedmiegcbdedaa
open Go.RowKit Store11

theorem zero65 : Try.zeroCells65 = ((List.replicate 110 (0 : Int)).map (Value.int .i64)).toArray := by kernel_rfl
/-- the first column is laid, up to row k -/
def colE : Nat → List Int
  | 0 => List.replicate 110 0
  | k + 1 => (colE k).set (k * 10) 1
theorem colE_len : ∀ k, (colE k).length = 110
  | 0 => by simp [colE]
  | k + 1 => by rw [colE, List.length_set, colE_len k]
theorem colE_eleven : colE 11 = outerE 0 := by decide +kernel

set_option maxHeartbeats 1000000 in
set_option maxRecDepth 100000 in
theorem ends_any (w : World) : Calls Try.prog 64 #[] w fun e w' => e = .returned (.agg (ENDS.map (Value.int .i64)).toArray) ∧ Below w.heap.size w w' := by
  go_enter Try.func64, Try.ntmps64
  go_upto_region 2 with (fail)
  generalize hr : w.heap.size = r
  generalize hw2 : (w.alloc (Obj.cells Try.zeroCells65 65)).alloc (Obj.cells Try.zeroCells65 65) = w2
  have hb2 : Below r w w2 := by rw [← hw2, ← hr]; exact ((Below.refl _ _).alloc (Nat.le_refl _) _).alloc (by simp) _
  have t2 : TabAt w2 (r + 1) 65 (colE 0) := by
    rw [← hw2, ← hr]; unfold TabAt; rw [colE, ← zero65]
    have := heap_alloc_new (w.alloc (Obj.cells Try.zeroCells65 65)) (Obj.cells Try.zeroCells65 65)
    simpa using this
  have z2 : TabAt w2 r 65 (List.replicate 110 0) := by
    rw [← hw2, ← hr]; unfold TabAt; rw [← zero65]
    exact heap_alloc2_old w _ _
  have HR := Lib.hid hr
  clear hr hw2
  have T3 := Lib.hid t2
  have Z3 := Lib.hid z2
  clear t2 z2
  go_wp2_with fail
  go_loopw [5] (fun vi wr => ∃ k : Nat, k ≤ 11 ∧ vi = .int .i64 (k : Int) ∧ Hid (TabAt wr (r + 1) 65 (colE k)) ∧ Hid (TabAt wr r 65 (List.replicate 110 0)) ∧ Below r w wr) (fun vi _ => 20 - (intOf vi).toNat)
  case atStart => exact ⟨0, by omega, rfl, T3, Z3, hb2⟩
  case round =>
    clear T3 Z3 hb2
    obtain ⟨k, hk, rfl, hT, hZ, hb⟩ := hrel
    by_cases hlt : k < 11
    · obtain ⟨x1, f1⟩ := hT.out.cell (k * 10) (by rw [colE_len]; omega)
      have i1 : ((k : Nat) : Int) < 11 := by omega
      have hT2 : Hid (TabAt (wr.setCell ⟨r + 1, k * 10, none⟩ (.int .i64 1)) (r + 1) 65 (colE (k + 1))) := Lib.hid (hT.out.set (k * 10) 1)
      have hZ2 := Lib.hid (hZ.out.kept ((grown_setCell wr (r + 1) (k * 10) (.int .i64 1)).block r hZ.out.lt (by simp)))
      have hb2 := hb.setCell (p := ⟨r + 1, k * 10, none⟩) (by simp) (.int .i64 1)
      generalize (colE k).getD (k * 10) 0 = v at *
      clear hT hZ hb
      go_wp2
      go_roundw
      case rel => exact ⟨k + 1, by omega, by go_num, hT2, hZ2, hb2⟩
      case measure => simp [intOf]; omega
    · obtain rfl : k = 11 := by omega
      have hT' : Hid (TabAt wr (r + 1) 65 (outerE 0)) := Lib.hid (by rw [← colE_eleven]; exact hT.out)
      clear hT
      go_wp2_with fail
      go_loopw [3] (fun vi wr => ∃ n : Nat, n ≤ 9 ∧ vi = .int .i64 ((n : Int) + 1) ∧ Hid (TabAt wr (r + 1) 65 (outerE n)) ∧ Hid (TabAt wr r 65 (List.replicate 110 0)) ∧ Below r w wr) (fun vi _ => 20 - (intOf vi).toNat)
      case atStart => exact ⟨0, by omega, rfl, hT', hZ, hb⟩
      case round =>
        clear hT' hZ hb
        obtain ⟨n, hn, rfl, hT, hZ, hb⟩ := hrel
        by_cases hlt : n < 9
        · have hd : decide (((n : Nat) : Int) + 1 ≤ 9) = true := by simp; omega
          go_wp2_with fail
          go_loopw [4] (fun vk wr => ∃ k : Nat, k ≤ 9 - n ∧ vk = .int .i64 (k : Int) ∧ Hid (TabAt wr (r + 1) 65 (innerE (n + 1) (outerE n) k)) ∧ Hid (TabAt wr r 65 (List.replicate 110 0)) ∧ Below r w wr) (fun vk _ => 20 - (intOf vk).toNat)
          case atStart => exact ⟨0, by omega, rfl, hT, hZ, hb⟩
          case round =>
            clear hT hb hZ
            obtain ⟨k, hk, rfl, hT, hZ, hb⟩ := hrel
            by_cases hkn : k < 9 - n
            · have hs := innerE_small n hlt k (by omega)
              have s1 := smallB_get hs (k * 10 + n)
              have s2 := smallB_get hs ((k + 1) * 10 + n)
              have hlen := s1.1
              obtain ⟨x1, _⟩ := hT.out.cell (k * 10 + n) (by omega)
              obtain ⟨x2, _⟩ := hT.out.cell ((k + 1) * 10 + n) (by omega)
              obtain ⟨x3, f3⟩ := hT.out.cell (k * 10 + (n + 1)) (by omega)
              generalize hv1 : (innerE (n + 1) (outerE n) k).getD (k * 10 + n) 0 = v1 at *
              generalize hv2 : (innerE (n + 1) (outerE n) k).getD ((k + 1) * 10 + n) 0 = v2 at *
              generalize (innerE (n + 1) (outerE n) k).getD (k * 10 + (n + 1)) 0 = v3 at *
              clear hs hlen
              have hnk : ((n : Nat) : Int) ≤ 9 ∧ ((k : Nat) : Int) ≤ 9 := by omega
              have hkn9 : ((k : Nat) : Int) + (((n : Nat) : Int) + 1) ≤ 9 := by omega
              obtain ⟨p, hp⟩ : ∃ p : Int, ((k : Nat) : Int) * v1 = p := ⟨_, rfl⟩
              have hpb : 0 ≤ p ∧ p ≤ 1000000 := by
                rw [← hp]
                have h1 := Int.mul_le_mul (show ((k : Nat) : Int) ≤ 10 by omega) s1.2.2 s1.2.1 (by omega)
                have h2 := Int.mul_nonneg (show (0 : Int) ≤ ((k : Nat) : Int) by omega) s1.2.1
                omega
              have w1 : IntKind.i64.wrap ((n : Nat) : Int) = ((n : Nat) : Int) := IntWalk.i64_in _ (by omega)
              have w2 : IntKind.i64.wrap (((k : Nat) : Int) + 1) = ((k : Nat) : Int) + 1 := IntWalk.i64_in _ (by omega)
              have w3 : IntKind.i64.wrap p = p := IntWalk.i64_in _ (by omega)
              have w4 : IntKind.i64.wrap (p + v2) = p + v2 := IntWalk.i64_in _ (by omega)
              have i1 : ((n : Nat) : Int) < 10 := by omega
              have i2 : ((k : Nat) : Int) < 11 := by omega
              have i3 : ((n : Nat) : Int) + 1 < 10 := by omega
              have i4 : ((k : Nat) : Int) + 1 < 11 := by omega
              have j1 : (0 : Int) ≤ ((k : Nat) : Int) + 1 := by omega
              have j2 : (0 : Int) ≤ ((n : Nat) : Int) + 1 := by omega
              have j3 : (((k : Nat) : Int) + 1).toNat = k + 1 := by omega
              have j4 : (((n : Nat) : Int) + 1).toNat = n + 1 := by omega
              have HV1 := Lib.hid hv1
              have HV2 := Lib.hid hv2
              have HP := Lib.hid hp
              clear hv1 hv2 s1 s2
              go_wp2_with fail
              go_still_tail 20, (by kernel_rfl)
              change wpList _ _ _ _ _ (World.drew wr)
              have hT2 : Hid (TabAt (wr.drew.setCell ⟨r + 1, k * 10 + (n + 1), none⟩ (.int .i64 (p + v2))) (r + 1) 65 (innerE (n + 1) (outerE n) (k + 1))) := Lib.hid (by
                have := hT.out.drew.set (k * 10 + (n + 1)) (p + v2)
                have e : innerE (n + 1) (outerE n) (k + 1) = (innerE (n + 1) (outerE n) k).set (k * 10 + (n + 1)) (p + v2) := by
                  rw [innerE_succ, show n + 1 - 1 = n by omega, HV1.out, HV2.out, HP.out]
                rw [e]; exact this)
              have hZ2 := Lib.hid (hZ.out.drew.kept ((grown_setCell wr.drew (r + 1) (k * 10 + (n + 1)) (.int .i64 (p + v2))).block r hZ.out.lt (by simp)))
              have hb2 := hb.drew.setCell (p := ⟨r + 1, k * 10 + (n + 1), none⟩) (by simp) (.int .i64 (p + v2))
              clear w1 w2 w3 w4 hT hZ hb
              go_wp2
              go_roundw
              case rel => first | exact ⟨k + 1, by omega, by go_num, hT2, hZ2, hb2⟩ | ((repeat apply Exists.intro); exact ⟨⟨k + 1, by omega, by go_num, hT2, hZ2, hb2⟩, rfl⟩)
              case measure => simp [intOf]; omega
            · obtain rfl : k = 9 - n := by omega
              have hT3 : Hid (TabAt wr (r + 1) 65 (outerE (n + 1))) := Lib.hid (by
                have e : 10 - (n + 1) = 9 - n := by omega
                rw [outerE, e]; exact hT.out)
              have hk9 : 9 < ((9 - n : Nat) : Int) + (((n : Nat) : Int) + 1) := by omega
              have hk8 : 0 ≤ ((9 - n : Nat) : Int) ∧ ((9 - n : Nat) : Int) ≤ 9 ∧ ((n : Nat) : Int) ≤ 9 := by omega
              generalize ((9 - n : Nat) : Int) = kk at *
              clear hT
              go_wp2_with fail
              go_roundw
              case rel => first | exact ⟨n + 1, by omega, by go_num, hT3, hZ, hb⟩ | ((repeat apply Exists.intro); exact ⟨⟨n + 1, by omega, by go_num, hT3, hZ, hb⟩, rfl⟩)
              case measure => simp [intOf]; omega
        · obtain rfl : n = 9 := by omega
          have hl9 : (outerE 9).length = 110 := (smallB_get (L := outerE 9) (innerE_small 8 (by omega) 1 (by omega)) 0).1
          have hfin := hZ.out.setAll (outerE 9) (by rw [hl9]; rfl)
          have hth := hZ.out.there
          have hbf : Below r w (wr.setCells r 0 ((outerE 9).map (Value.int .i64)).toArray.toList) := hb.grown (grown_setCells r _ 0 wr) (by have := hZ.out.lt; omega) (fun k hk => by cases hk; exact Nat.le_refl _)
          have hi70 : (Try.prog.info? 65).map (·.size) = some 110 := by kernel_rfl
          have hs : ((outerE 9).map (Value.int .i64)).toArray.size = 110 := by simp [hl9]
          have HT : Hid (wr.heap[r + 1]? = some (.cells ((outerE 9).map (Value.int .i64)).toArray 65 (0, 0))) := Lib.hid hT.out
          have HF := Lib.hid hfin
          have H1 := Lib.hid (ints_one (outerE 9))
          have HS := Lib.hid hs
          have HH : Hid (wr.there r 0 ((outerE 9).map (Value.int .i64)).toArray.size) := Lib.hid (by rw [hs]; simpa using hth)
          have HTRI : Hid (outerE 9 = ENDS) := Lib.hid rfl
          clear hfin hT hZ hth hs hl9
          generalize outerE 9 = M at *
          go_wp2_with (first
            | (refine wpList_load_row rfl 65 _ rfl (r + 1) rfl 65 _ _ _ HT.out Try.underlying65 rfl (by rw [HS.out]; exact hi70) ?_)
            | (refine wpList_store_mid rfl 65 _ _ rfl r 0 _ rfl rfl HH.out (by rw [HS.out]; exact hi70) H1.out ?_))
          refine bodyPost_ret (v := .agg (ENDS.map (Value.int .i64)).toArray) (by
            rw [← HTRI.out]
            exact results_cell_row (p := 0) (ty := 65) rfl _ _ r 65 _ _ _ rfl HF.out Try.underlying65 rfl (by rw [HS.out]; exact hi70)) rfl ⟨rfl, by rw [HR.out]; exact hbf⟩
end Go.Proofs.Ytjedmiegcbdedaa
