/- Walks of chapter 11: At. -/
import Derived.Test.YtjedmiegcbdedaaWl
import Derived.Test.YtjedmiegcbdedaaWf
namespace Go.Proofs.Ytjedmiegcbdedaa
open Go.RowKit Store11

theorem new65 (w : World) : TabAt (w.alloc (.cells Try.zeroCells65 65)) w.heap.size 65 (List.replicate 110 0) := by
  unfold TabAt; rw [← zero65]; exact heap_alloc_new w _
theorem info65 : (Try.prog.info? 65).map (·.size) = some 110 := by kernel_rfl
theorem ends_size {M : List Int} (h : Hid (M = ENDS)) : ((M.map (Value.int .i64)).toArray).size = 110 := by rw [h.out]; simp [ends_len]
theorem ends_M {M : List Int} (h : Hid (M = ENDS)) (w : World) : Calls Try.prog 64 #[] w fun e w' => e = .returned (.agg (M.map (Value.int .i64)).toArray) ∧ Below w.heap.size w w' := by rw [h.out]; exact ends_any w
theorem info65M {M : List Int} (h : Hid (M = ENDS)) : (Try.prog.info? 65).map (·.size) = some ((M.map (Value.int .i64)).toArray).size := by rw [ends_size h]; exact info65
theorem there65 {M : List Int} (h : Hid (M = ENDS)) (w : World) : (w.alloc (.cells Try.zeroCells65 65)).there w.heap.size 0 ((M.map (Value.int .i64)).toArray).size := by
  rw [ends_size h]; have := (new65 w).there; simpa using this
theorem laid65 {M : List Int} (h : Hid (M = ENDS)) (w : World) : TabAt ((w.alloc (.cells Try.zeroCells65 65)).setCells w.heap.size 0 ((M.map (Value.int .i64)).toArray).toList) w.heap.size 65 ENDS := by
  rw [h.out]; exact (new65 w).setAll ENDS (by rw [ends_len]; rfl)

set_option maxHeartbeats 1000000 in
set_option maxRecDepth 100000 in
theorem At_any (n num : Int) (w : World) : Calls Try.prog 27 #[.int .i64 n, .int .i64 num] w fun e w' => ∃ a m c, e = .returned (.tuple #[.slice a m c, .int .i64 (atE n num)]) ∧ IsL w' a m c (atL n num) ∧ Below w.heap.size w w' := by
  by_cases hn : 1 ≤ n ∧ n ≤ 9
  · have hce : countE n = 0 := by rw [countE, if_pos hn]
    have hcv : countV n = countN n.toNat := by rw [countV, if_pos hn]
    by_cases hk : 0 ≤ num ∧ num < countN n.toNat
    · have HE : Hid (atE n num = 0) := Lib.hid (by rw [atE, if_pos ⟨hn, hk⟩])
      have HA : Hid (atG n.toNat num 0 = atL n num) := Lib.hid (by rw [atL, if_pos HE.out])
      obtain ⟨B, rfl⟩ : ∃ B : Nat, n = B := ⟨n.toNat, by omega⟩
      have hsm := (rowN_small B (by omega)).2.1 11 (by omega)
      rw [List.take_of_length_le (by rw [(rowN_small B (by omega)).1]; exact Nat.le_refl _)] at hsm
      have hnum : 0 ≤ num ∧ num ≤ 100000 := by
        have : countN ((B : Int)).toNat = (rowN B).sum := by rw [show ((B : Int)).toNat = B by omega]; rfl
        omega
      have d1 : decide (num < 0) = false := by simpa using hk.1
      have d2 : decide (countN B ≤ num) = false := by simpa using hk.2
      have HCE := Lib.hid hce
      have HCV : Hid (countV (B : Int) = countN B) := Lib.hid hcv
      have hB : 1 ≤ B ∧ B ≤ 9 := by omega
      have HA' : Hid (atG B num 0 = atL (B : Int) num) := Lib.hid (by rw [← HA.out]; rfl)
      obtain ⟨M, hM⟩ : ∃ M, M = ENDS := ⟨_, rfl⟩
      have HM := Lib.hid hM
      clear hsm hce hcv hn hk HA hM
      go_enter Try.func27, Try.ntmps27
      go_wp2_with (first
        | (go_at_call 23; refine (Count_any _ _).mono ?_; rintro e w1 ⟨rfl, hb1⟩; rw [HCE.out, HCV.out])
        | (go_at_call 64; refine (ends_M HM _).mono ?_; rintro e w2 ⟨rfl, hb2⟩)
        | (refine wpList_store_mid rfl 65 _ _ rfl w2.heap.size 0 _ rfl rfl (there65 HM w2) (info65M HM) (ints_one _) ?_))
      have hT := laid65 HM w2
      have hbt : Below w.heap.size w ((w2.alloc (.cells Try.zeroCells65 65)).setCells w2.heap.size 0 ((M.map (Value.int .i64)).toArray).toList) :=
        ((hb1.trans (hb2.mono hb1.size)).alloc (Nat.le_trans hb1.size hb2.size) _).grown (grown_setCells w2.heap.size _ 0 _) (by have h1 := hb1.size; have h2 := hb2.size; simp; omega) (fun k hk => by cases hk; exact Nat.le_trans hb1.size hb2.size)
      have hg : w.heap.size ≤ w2.heap.size := Nat.le_trans hb1.size hb2.size
      generalize (w2.alloc (.cells Try.zeroCells65 65)).setCells w2.heap.size 0 ((M.map (Value.int .i64)).toArray).toList = w3 at *
      generalize w2.heap.size = g at *
      have HT := Lib.hid hT
      clear hT hb1 hb2
      go_loopw [1, 9, 10, 11] (fun vn vo vk vm wr => ∃ (m k : Nat) (x : Int) (a : Option Addr) (j c : Nat) (out : List Int), m ≤ 9 ∧ k + m ≤ 9 ∧ j + m = B ∧ 0 ≤ x ∧ x ≤ 100000 ∧ vm = .int .i64 ((m : Int) - 1) ∧ vk = .int .i64 (k : Int) ∧ vn = .int .i64 x ∧ vo = .slice a j c ∧ Hid (out ++ atG m x k = atL (B : Int) num) ∧ OwnL wr 3 w.heap.size a j c out ∧ Sep (some ⟨g, 0, none⟩) a ∧ Hid (TabAt wr g 65 ENDS) ∧ Below w.heap.size w wr) (fun _ _ _ vm _ => (intOf vm + 1).toNat)
      case atStart => exact ⟨B, 0, num, none, 0, 0, [], by omega, by omega, by omega, by omega, by omega, rfl, rfl, rfl, rfl, HA', OwnL.nilL _ _ _, Sep.none_right _, HT, hbt⟩
      case round =>
        clear HT hbt HA' d1 d2 hnum
        obtain ⟨m, k, x, a, j, c, out, hm, hkm, hj, hx0, hx1, rfl, rfl, rfl, rfl, hA, ho, hs, hT, hb⟩ := hrel
        by_cases hm0 : 0 < m
        · obtain ⟨m, rfl⟩ : ∃ m', m = m' + 1 := ⟨m - 1, by omega⟩
          have he := endN_small k (by omega) m (by omega) (by omega)
          obtain ⟨x1, _⟩ := hT.out.cell (k * 10 + m) (by rw [ends_len]; omega)
          have hq : x / endN k m * endN k m ≤ x := Int.ediv_mul_le x (by omega)
          have hd0 : 0 ≤ x / endN k m := Int.ediv_nonneg hx0 (by omega)
          have hd1 : x / endN k m ≤ x := Int.ediv_le_self _ hx0
          have hstep : atG (m + 1) x k = min (x / endN k m) k :: atG m (x - min (x / endN k m) k * endN k m) (if min (x / endN k m) (k : Int) = k then k + 1 else k) := rfl
          change wr.cell? ⟨g, k * 10 + m, none⟩ = some (.int .i64 (endN k m)) at x1
          generalize endN k m = each at *
          obtain ⟨d, hd⟩ : ∃ d, x / each = d := ⟨_, rfl⟩
          rw [hd] at hq hd0 hd1 hstep
          have hsz := hb.size
          have hjl := ho.len
          by_cases hdk : d < k
          · have hmin : min d (k : Int) = d := by omega
            rw [hmin, if_neg (by omega)] at hstep
            obtain ⟨q, hqe⟩ : ∃ q, d * each = q := ⟨_, rfl⟩
            have hq0 : 0 ≤ q := by rw [← hqe]; exact Int.mul_nonneg hd0 (by omega)
            rw [hqe] at hq hstep
            have HA2 : Hid ((out ++ [d]) ++ atG m (x - q) k = atL (B : Int) num) := Lib.hid (by rw [← hA.out, hstep, List.append_assoc]; rfl)
            have hdk2 : (d == (k : Int)) = false := by simp; omega
            clear hstep hA hjl
            go_wp2_with (at_builtin; refine wl_app_own Try.underlying22 elem3 w.heap.size (.tmp 58) (.tmp 60) rfl rfl rfl rfl (ho.alloc _) (isL_one _ _ _) (by simp; omega) (by omega) ?_)
            intro a2 c2 w4 ho2 hg2 hb2 hv2
            have hT2 : Hid (TabAt w4 g 65 ENDS) := Lib.hid (hT.out.kept ((hg2.block g (by have := hT.out.lt; simp; omega) (sep_ne hs j c).symm).trans (Below.heap_alloc _ _ _ hT.out.lt)))
            have hs2 : Sep (some ⟨g, 0, none⟩) a2 := (hs.symm.via hv2 (fun x hx => by cases hx; have := hT.out.lt; simp; omega)).symm
            have hb3 : Below w.heap.size w w4 := (hb.alloc hsz (.cells #[.int .i64 d] 3)).trans hb2
            clear hg2 hb2 hv2 hT hs ho hb
            go_wp2
            go_roundw
            case rel => exact ⟨m, k, x - q, a2, j + 1, c2, out ++ [d], by omega, by omega, by omega, by omega, by omega, by go_num, by go_num, rfl, rfl, HA2, ho2, hs2, hT2, hb3⟩
            case measure => simp [intOf]
          · have hmin : min d (k : Int) = k := by omega
            rw [hmin, if_pos rfl] at hstep
            obtain ⟨q, hqe⟩ : ∃ q, (k : Int) * each = q := ⟨_, rfl⟩
            have hq0 : 0 ≤ q := by rw [← hqe]; exact Int.mul_nonneg (by omega) (by omega)
            have hqq : q ≤ x := by
              have := Int.mul_le_mul_of_nonneg_right (show (k : Int) ≤ d by omega) (show 0 ≤ each by omega)
              omega
            rw [hqe] at hstep
            have HA2 : Hid ((out ++ [(k : Int)]) ++ atG m (x - q) (k + 1) = atL (B : Int) num) := Lib.hid (by rw [← hA.out, hstep, List.append_assoc]; rfl)
            rcases (by omega : (k : Int) < d ∨ d = (k : Int)) with hdk2 | rfl
            · clear hstep hA hjl hq hdk hmin
              go_wp2_with (at_builtin; refine wl_app_own Try.underlying22 elem3 w.heap.size (.tmp 58) (.tmp 60) rfl rfl rfl rfl (ho.alloc _) (isL_one _ _ _) (by simp; omega) (by omega) ?_)
              intro a2 c2 w4 ho2 hg2 hb2 hv2
              have hT2 : Hid (TabAt w4 g 65 ENDS) := Lib.hid (hT.out.kept ((hg2.block g (by have := hT.out.lt; simp; omega) (sep_ne hs j c).symm).trans (Below.heap_alloc _ _ _ hT.out.lt)))
              have hs2 : Sep (some ⟨g, 0, none⟩) a2 := (hs.symm.via hv2 (fun x hx => by cases hx; have := hT.out.lt; simp; omega)).symm
              have hb3 : Below w.heap.size w w4 := (hb.alloc hsz (.cells #[.int .i64 (k : Int)] 3)).trans hb2
              clear hg2 hb2 hv2 hT hs ho hb
              go_wp2
              go_roundw
              case rel => exact ⟨m, k + 1, x - q, a2, j + 1, c2, out ++ [(k : Int)], by omega, by omega, by omega, by omega, by omega, by go_num, by go_num, rfl, rfl, HA2, ho2, hs2, hT2, hb3⟩
              case measure => simp [intOf]
            · clear hstep hA hjl hq hdk hmin
              go_wp2_with (at_builtin; refine wl_app_own Try.underlying22 elem3 w.heap.size (.tmp 58) (.tmp 60) rfl rfl rfl rfl (ho.alloc _) (isL_one _ _ _) (by simp; omega) (by omega) ?_)
              intro a2 c2 w4 ho2 hg2 hb2 hv2
              have hT2 : Hid (TabAt w4 g 65 ENDS) := Lib.hid (hT.out.kept ((hg2.block g (by have := hT.out.lt; simp; omega) (sep_ne hs j c).symm).trans (Below.heap_alloc _ _ _ hT.out.lt)))
              have hs2 : Sep (some ⟨g, 0, none⟩) a2 := (hs.symm.via hv2 (fun x hx => by cases hx; have := hT.out.lt; simp; omega)).symm
              have hb3 : Below w.heap.size w w4 := (hb.alloc hsz (.cells #[.int .i64 (k : Int)] 3)).trans hb2
              clear hg2 hb2 hv2 hT hs ho hb
              go_wp2
              go_roundw
              case rel => exact ⟨m, k + 1, x - q, a2, j + 1, c2, out ++ [(k : Int)], by omega, by omega, by omega, by omega, by omega, by go_num, by go_num, rfl, rfl, HA2, ho2, hs2, hT2, hb3⟩
              case measure => simp [intOf]
        · obtain rfl : m = 0 := by omega
          obtain rfl : j = B := by omega
          have HO : Hid (out = atL (j : Int) num) := Lib.hid (by rw [← hA.out]; simp [atG])
          have hI := ho.isL
          rw [HO.out] at hI
          clear hA ho hT hs
          go_wp2
          go_ret2
          exact ⟨a, j, c, ret_si HE.out.symm, hI, hb⟩
    · have HE : Hid (atE n num = 1) := Lib.hid (by rw [atE, if_neg (fun h => hk h.2)])
      have HA : Hid ([] = atL n num) := Lib.hid (by rw [atL, if_neg (by rw [HE.out]; omega)])
      obtain ⟨B, rfl⟩ : ∃ B : Nat, n = B := ⟨n.toNat, by omega⟩
      have HCE := Lib.hid hce
      have HCV : Hid (countV (B : Int) = countN B) := Lib.hid hcv
      have hor : num < 0 ∨ (0 ≤ num ∧ countN B ≤ num) := by simp at hk; omega
      clear hce hcv hn hk
      rcases hor with h | ⟨h, h'⟩
      · have d1 : decide (num < 0) = true := by simpa using h
        go_enter Try.func27, Try.ntmps27
        go_wp2_with (go_at_call 23; refine (Count_any _ _).mono ?_; rintro e w1 ⟨rfl, hb1⟩; rw [HCE.out, HCV.out])
        go_ret2
        exact ⟨none, 0, 0, ret_si HE.out.symm, HA.out ▸ IsL.nilL _, hb1⟩
      · have d1 : decide (num < 0) = false := by simpa using h
        have d2 : decide (countN B ≤ num) = true := by simpa using h'
        go_enter Try.func27, Try.ntmps27
        go_wp2_with (go_at_call 23; refine (Count_any _ _).mono ?_; rintro e w1 ⟨rfl, hb1⟩; rw [HCE.out, HCV.out])
        go_ret2
        exact ⟨none, 0, 0, ret_si HE.out.symm, HA.out ▸ IsL.nilL _, hb1⟩
  · have hce : countE n = 1 := by rw [countE, if_neg hn]
    have HE : Hid (atE n num = 1) := Lib.hid (by rw [atE, if_neg (fun h => hn h.1)])
    have HA : Hid ([] = atL n num) := Lib.hid (by rw [atL, if_neg (by rw [HE.out]; omega)])
    have HCE := Lib.hid hce
    clear hce hn
    go_enter Try.func27, Try.ntmps27
    go_wp2_with (go_at_call 23; refine (Count_any _ _).mono ?_; rintro e w1 ⟨rfl, hb1⟩; rw [HCE.out])
    go_ret2
    exact ⟨none, 0, 0, ret_si HE.out.symm, HA.out ▸ IsL.nilL _, hb1⟩
end Go.Proofs.Ytjedmiegcbdedaa
