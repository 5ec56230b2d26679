/- Walks of chapter 11: the tables of numbers. -/
import Derived.Test.YtjedmiegcbdedaaWa
import Derived.Test.YtjedmiegcbdedaaPb
import Derived.Deep.CutRange
import Derived.Laws.Rows
import Derived.IntWalk
import Derived.Deep.MidRow
import Derived.Test.YtjedmiegcbdedaaLib
namespace Go.Proofs.Ytjedmiegcbdedaa
open Go.RowKit Store11

/-- Block g holds the ints L. -/
def TabAt (w : World) (g : Nat) (T : TypeId) (L : List Int) : Prop := w.heap[g]? = some (.cells (L.map (Value.int .i64)).toArray T (0, 0))
theorem TabAt.cell {w : World} {g T : Nat} {L : List Int} (h : TabAt w g T L) (j : Nat) (hj : j < L.length) : w.cell? ⟨g, j, none⟩ = some (.int .i64 (L.getD j 0)) ∧ w.frozen? ⟨g, j, none⟩ = false := by
  unfold TabAt at h
  exact ⟨by rw [World.cell?]; simp [h, List.getD, hj], by simp [World.frozen?, h]⟩
theorem TabAt.set {w : World} {g T : Nat} {L : List Int} (h : TabAt w g T L) (j : Nat) (v : Int) : TabAt (w.setCell ⟨g, j, none⟩ (.int .i64 v)) g T (L.set j v) := by
  unfold TabAt at *
  rw [setCell_own h j _]
  simp [List.map_set]
theorem TabAt.kept {w w' : World} {g T : Nat} {L : List Int} (h : TabAt w g T L) (hb : w'.heap[g]? = w.heap[g]?) : TabAt w' g T L := hb.trans h
theorem TabAt.lt {w : World} {g T : Nat} {L : List Int} (h : TabAt w g T L) : g < w.heap.size := (Array.getElem?_eq_some_iff.1 h).1
theorem TabAt.drew {w : World} {g T : Nat} {L : List Int} (h : TabAt w g T L) : TabAt w.drew g T L := h

theorem TabAt.there {w : World} {g T : Nat} {L : List Int} (h : TabAt w g T L) : w.there g 0 L.length := fun j hj => by
  obtain ⟨h1, h2⟩ := h.cell j hj
  rw [Nat.zero_add]
  exact ⟨by rw [h1]; rfl, h2⟩
theorem TabAt.setAll {w : World} {g T : Nat} {L : List Int} (h : TabAt w g T L) (M : List Int) (hl : M.length = L.length) : TabAt (w.setCells g 0 (M.map (Value.int .i64)).toArray.toList) g T M := by
  obtain ⟨cur, h1, h2⟩ := setCells_own (M.map (Value.int .i64)).toArray.toList 0 w _ h
  unfold TabAt
  rw [h1]
  simp only [Option.some.injEq, Obj.cells.injEq, and_true]
  apply Array.ext_getElem?
  intro i
  by_cases hi : i < M.length
  · have h3 := World.cell?_setCells_in g (M.map (Value.int .i64)).toArray.toList 0 w (fun j hj => by
      have := (h.there j (by simp at hj; omega)).1; simpa using this) i (by simpa using hi)
    rw [World.cell?] at h3
    simp only [h1] at h3
    simp at h3
    simp [h3, hi]
  · have hs : cur.size = L.length := by simpa using h2
    rw [Array.getElem?_eq_none (by omega), Array.getElem?_eq_none (by simp; omega)]
theorem ints_one (L : List Int) : ((L.map (Value.int .i64)).toArray).all (·.oneCell') = true :=
  all_oneCell_toArray fun v hv => by obtain ⟨x, _, rfl⟩ := List.mem_map.1 hv; rfl

theorem zero70 : Try.zeroCells70 = ((List.replicate 110 (0 : Int)).map (Value.int .i64)).toArray := by kernel_rfl

set_option maxHeartbeats 1000000 in
set_option maxRecDepth 100000 in
theorem tri_any (w : World) : Calls Try.prog 68 #[] w fun e w' => e = .returned (.agg (TRI.map (Value.int .i64)).toArray) ∧ Below w.heap.size w w' := by
  go_enter Try.func68, Try.ntmps68
  go_upto_region 2 with (fail)
  generalize hr : w.heap.size = r
  generalize hw2 : (w.alloc (Obj.cells Try.zeroCells70 70)).alloc (Obj.cells Try.zeroCells70 70) = w2
  have hb2 : Below r w w2 := by rw [← hw2, ← hr]; exact ((Below.refl _ _).alloc (Nat.le_refl _) _).alloc (by simp) _
  have hz2 : w2.heap.size = r + 2 := by rw [← hw2, ← hr]; simp
  have t2 : TabAt w2 (r + 1) 70 (List.replicate 110 0) := by
    rw [← hw2, ← hr]; unfold TabAt; rw [← zero70]
    have := heap_alloc_new (w.alloc (Obj.cells Try.zeroCells70 70)) (Obj.cells Try.zeroCells70 70)
    simpa using this
  have z2 : TabAt w2 r 70 (List.replicate 110 0) := by
    rw [← hw2, ← hr]; unfold TabAt; rw [← zero70]
    exact heap_alloc2_old w _ _
  have HR := Lib.hid hr
  clear hr hw2
  obtain ⟨x0, f0⟩ := t2.cell 0 (by simp)
  have t3 : TabAt (w2.setCell ⟨r + 1, 0, none⟩ (.int .i64 1)) (r + 1) 70 (outerT 0) := t2.set 0 1
  have b3 := hb2.setCell (p := ⟨r + 1, 0, none⟩) (by simp) (.int .i64 1)
  have T3 := Lib.hid t3
  have Z3 := Lib.hid (z2.kept ((grown_setCell w2 (r + 1) 0 (.int .i64 1)).block r z2.lt (by simp)))
  clear t3 t2 z2
  go_wp2_with fail
  go_loopw [2] (fun vi wr => ∃ n : Nat, n ≤ 9 ∧ vi = .int .i64 ((n : Int) + 1) ∧ Hid (TabAt wr (r + 1) 70 (outerT n)) ∧ Hid (TabAt wr r 70 (List.replicate 110 0)) ∧ Below r w wr) (fun vi _ => 20 - (intOf vi).toNat)
  case atStart => exact ⟨0, by omega, rfl, T3, Z3, b3⟩
  case round =>
    clear T3 Z3 b3 x0 f0
    obtain ⟨n, hn, rfl, hT, hZ, hb⟩ := hrel
    by_cases hlt : n < 9
    · have hd : decide (((n : Nat) : Int) + 1 ≤ 9) = true := by simp; omega
      go_wp2_with fail
      go_loopw [3] (fun vk wr => ∃ k : Nat, k ≤ n + 1 ∧ vk = .int .i64 ((k : Int) + 1) ∧ Hid (TabAt wr (r + 1) 70 (innerT (n + 1) (outerT n) k)) ∧ Hid (TabAt wr r 70 (List.replicate 110 0)) ∧ Below r w wr) (fun vk _ => 20 - (intOf vk).toNat)
      case atStart => exact ⟨0, by omega, rfl, hT, hZ, hb⟩
      case round =>
        clear hT hb hZ
        obtain ⟨k, hk, rfl, hT, hZ, hb⟩ := hrel
        by_cases hkn : k < n + 1
        · have hs := innerT_small n hlt k (by omega)
          have s1 := smallB_get hs (n * 11 + k)
          have s2 := smallB_get hs (n * 11 + (k + 1))
          have hlen := s1.1
          obtain ⟨x1, _⟩ := hT.out.cell (n * 11 + k) (by omega)
          obtain ⟨x2, _⟩ := hT.out.cell (n * 11 + (k + 1)) (by omega)
          obtain ⟨x3, f3⟩ := hT.out.cell ((n + 1) * 11 + (k + 1)) (by omega)
          generalize hv1 : (innerT (n + 1) (outerT n) k).getD (n * 11 + k) 0 = v1 at *
          generalize hv2 : (innerT (n + 1) (outerT n) k).getD (n * 11 + (k + 1)) 0 = v2 at *
          generalize (innerT (n + 1) (outerT n) k).getD ((n + 1) * 11 + (k + 1)) 0 = v3 at *
          clear hs hlen
          have hnk : ((n : Nat) : Int) ≤ 9 ∧ ((k : Nat) : Int) ≤ 9 := by omega
          obtain ⟨p, hp⟩ : ∃ p : Int, (((k : Nat) : Int) + 1) * v2 = p := ⟨_, rfl⟩
          have hpb : 0 ≤ p ∧ p ≤ 1000000 := by
            rw [← hp]
            have h1 := Int.mul_le_mul (show ((k : Nat) : Int) + 1 ≤ 10 by omega) s2.2.2 s2.2.1 (by omega)
            have h2 := Int.mul_nonneg (show (0 : Int) ≤ ((k : Nat) : Int) + 1 by omega) s2.2.1
            omega
          have w1 : IntKind.i64.wrap ((n : Nat) : Int) = ((n : Nat) : Int) := IntWalk.i64_in _ (by omega)
          have w2 : IntKind.i64.wrap ((k : Nat) : Int) = ((k : Nat) : Int) := IntWalk.i64_in _ (by omega)
          have w3 : IntKind.i64.wrap p = p := IntWalk.i64_in _ (by omega)
          have w4 : IntKind.i64.wrap (v1 + p) = v1 + p := IntWalk.i64_in _ (by omega)
          have i1 : ((n : Nat) : Int) < 10 := by omega
          have i2 : ((k : Nat) : Int) < 11 := by omega
          have i3 : ((n : Nat) : Int) + 1 < 10 := by omega
          have i4 : ((k : Nat) : Int) + 1 < 11 := by omega
          have j1 : (0 : Int) ≤ ((k : Nat) : Int) + 1 := by omega
          have j2 : (0 : Int) ≤ ((n : Nat) : Int) + 1 := by omega
          have j3 : (((k : Nat) : Int) + 1).toNat = k + 1 := by omega
          have j4 : (((n : Nat) : Int) + 1).toNat = n + 1 := by omega
          have HV1 := Lib.hid hv1
          have HV2 := Lib.hid hv2
          have HP := Lib.hid hp
          clear hv1 hv2 s1 s2
          go_wp2_with fail
          go_still_tail 20, (by kernel_rfl)
          change wpList _ _ _ _ _ (World.drew wr)
          have hT2 : Hid (TabAt (wr.drew.setCell ⟨r + 1, (n + 1) * 11 + (k + 1), none⟩ (.int .i64 (v1 + p))) (r + 1) 70 (innerT (n + 1) (outerT n) (k + 1))) := Lib.hid (by
            have := hT.out.drew.set ((n + 1) * 11 + (k + 1)) (v1 + p)
            have e : innerT (n + 1) (outerT n) (k + 1) = (innerT (n + 1) (outerT n) k).set ((n + 1) * 11 + (k + 1)) (v1 + p) := by
              rw [innerT_succ, show n + 1 - 1 = n by omega, HV1.out, HV2.out, HP.out]
            rw [e]; exact this)
          have hZ2 := Lib.hid (hZ.out.drew.kept ((grown_setCell wr.drew (r + 1) ((n + 1) * 11 + (k + 1)) (.int .i64 (v1 + p))).block r hZ.out.lt (by simp)))
          have hb2 := hb.drew.setCell (p := ⟨r + 1, (n + 1) * 11 + (k + 1), none⟩) (by simp) (.int .i64 (v1 + p))
          clear w1 w2 w3 w4 hT hZ hb
          go_wp2
          go_roundw
          case rel => first | exact ⟨k + 1, by omega, by go_num, hT2, hZ2, hb2⟩ | ((repeat apply Exists.intro); exact ⟨⟨k + 1, by omega, by go_num, hT2, hZ2, hb2⟩, rfl⟩)
          case measure => simp [intOf]; omega
        · obtain rfl : k = n + 1 := by omega
          go_wp2_with fail
          go_roundw
          case rel => first | exact ⟨n + 1, by omega, by go_num, hT, hZ, hb⟩ | ((repeat apply Exists.intro); exact ⟨⟨n + 1, by omega, by go_num, hT, hZ, hb⟩, rfl⟩)
          case measure => simp [intOf]; omega
    · obtain rfl : n = 9 := by omega
      have hl9 : (outerT 9).length = 110 := (smallB_get (L := outerT 9) (innerT_small 8 (by omega) 9 (by omega)) 0).1
      have hfin := hZ.out.setAll (outerT 9) (by rw [hl9]; rfl)
      have hth := hZ.out.there
      have hbf : Below r w (wr.setCells r 0 ((outerT 9).map (Value.int .i64)).toArray.toList) := hb.grown (grown_setCells r _ 0 wr) (by have := hZ.out.lt; omega) (fun k hk => by cases hk; exact Nat.le_refl _)
      have hi70 : (Try.prog.info? 70).map (·.size) = some 110 := by kernel_rfl
      have hs : ((outerT 9).map (Value.int .i64)).toArray.size = 110 := by simp [hl9]
      have HT : Hid (wr.heap[r + 1]? = some (.cells ((outerT 9).map (Value.int .i64)).toArray 70 (0, 0))) := Lib.hid hT.out
      have HF := Lib.hid hfin
      have H1 := Lib.hid (ints_one (outerT 9))
      have HS := Lib.hid hs
      have HH : Hid (wr.there r 0 ((outerT 9).map (Value.int .i64)).toArray.size) := Lib.hid (by rw [hs]; simpa using hth)
      have HTRI : Hid (outerT 9 = TRI) := Lib.hid rfl
      clear hfin hT hZ hth hs hl9
      generalize outerT 9 = M at *
      go_wp2_with (first
        | (refine wpList_load_row rfl 70 _ rfl (r + 1) rfl 70 _ _ _ HT.out Try.underlying70 rfl (by rw [HS.out]; exact hi70) ?_)
        | (refine wpList_store_mid rfl 70 _ _ rfl r 0 _ rfl rfl HH.out (by rw [HS.out]; exact hi70) H1.out ?_))
      refine bodyPost_ret (v := .agg (TRI.map (Value.int .i64)).toArray) (by
        rw [← HTRI.out]
        exact results_cell_row (p := 0) (ty := 70) rfl _ _ r 70 _ _ _ rfl HF.out Try.underlying70 rfl (by rw [HS.out]; exact hi70)) rfl ⟨rfl, by rw [HR.out]; exact hbf⟩
end Go.Proofs.Ytjedmiegcbdedaa
