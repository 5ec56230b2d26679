/- Law of chapter 3: GradeFoata. -/
import Derived.Test.YtmcckngodaeojaaXj
import Derived.Test.YtmcckngodaeojaaWR
import Derived.ChangeKeysEq
import Derived.Deep.MidRow
import Derived.Laws.EntriesVeiled
namespace Go.Proofs.Ytmcckngodaeojaa
open Go.RowKit Grade03
abbrev z16 : Array Value := #[.int .i64 0, .int .i64 0, .int .i64 0, .int .i64 0, .int .i64 0, .int .i64 0, .int .i64 0, .int .i64 0, .int .i64 0, .int .i64 0, .int .i64 0, .int .i64 0, .int .i64 0, .int .i64 0, .int .i64 0, .int .i64 0]
theorem z16_eq : z16 = ((List.replicate 16 (0 : Int)).map IW).toArray := rfl
theorem foa_start (w W : World) (n : Nat) (z : Array Value) (hz : z = ((List.replicate 16 (0 : Int)).map IW).toArray) (hW : ((((((w.alloc (.cells #[.int .i64 (n : Int)] 3)).alloc (.cells z 60)).alloc (.cells z 60)).alloc (.map #[] 0)).alloc (.cells #[.map (some (w.heap.size + 1 + 1 + 1))] 61)).alloc (.cells #[.bool true] 4)) = W) : FoI w w.heap.size n 0 W := by
  subst hW
  unfold FoI
  rw [List.take_zero, hisL_nil, hisL_nil]
  have hm : MapB encS 4 ((((w.alloc (.cells #[.int .i64 (n : Int)] 3)).alloc (.cells z 60)).alloc (.cells z 60)).alloc (.map #[] 0)) (w.heap.size + 3) 0 0 (seenF []) := by
    have := MapB.made (E := encS) (e := 4) (((w.alloc (.cells #[.int .i64 (n : Int)] 3)).alloc (.cells z 60)).alloc (.cells z 60))
    rw [show ((((w.alloc (.cells #[.int .i64 (n : Int)] 3)).alloc (.cells z 60)).alloc (.cells z 60))).heap.size = w.heap.size + 3 by simp] at this
    exact this
  have a0 : ArrV VW (w.alloc (.cells #[.int .i64 (n : Int)] 3)) w.heap.size 3 [.int .i64 (n : Int)] := ArrV.new w _ _ _ _ rfl rfl
  have a1 : ArrV IW ((w.alloc (.cells #[.int .i64 (n : Int)] 3)).alloc (.cells z 60)) (w.heap.size + 1) 60 (List.replicate 16 0) := ArrV.new _ _ _ _ _ (by simp) hz
  have a2 : ArrV IW (((w.alloc (.cells #[.int .i64 (n : Int)] 3)).alloc (.cells z 60)).alloc (.cells z 60)) (w.heap.size + 2) 60 (List.replicate 16 0) := ArrV.new _ _ _ _ _ (by simp) hz
  have b6 : Below w.heap.size w ((((((w.alloc (.cells #[.int .i64 (n : Int)] 3)).alloc (.cells z 60)).alloc (.cells z 60)).alloc (.map #[] 0)).alloc (.cells #[.map (some (w.heap.size + 1 + 1 + 1))] 61)).alloc (.cells #[.bool true] 4)) := ((((((Below.refl _ w).alloc (Nat.le_refl _) _).alloc (by simp) _).alloc (by simp; omega) _).alloc (by simp; omega) _).alloc (by simp; omega) _).alloc (by simp; omega) _
  refine ⟨by simp, ((((a0.alloc _).alloc _).alloc _).alloc _).alloc _, (((a1.alloc _).alloc _).alloc _).alloc _, ((a2.alloc _).alloc _).alloc _, (hm.alloc _).alloc _, ?_, ?_, b6⟩
  · refine ArrV.alloc ?_ _
    exact ArrV.new _ _ _ _ _ (by simp) rfl
  · exact ArrV.new _ _ _ _ _ (by simp) rfl
set_option maxRecDepth 100000 in
theorem eq_items16 (xs ys : List Int) (w : World) : ∀ is : List Nat, (∀ i ∈ is, i < xs.length ∧ i < ys.length) → (Op.eqItems 9999 3 1 (xs.map IW).toArray (ys.map IW).toArray is).run Try.prog w = .ok (decide (∀ i ∈ is, xs.getD i 0 = ys.getD i 0)) w
  | [], _ => by simp [Op.eqItems]
  | i :: is, h => by
    have ih := eq_items16 xs ys w is fun j hj => h j (List.mem_cons_of_mem _ hj)
    obtain ⟨h1, h2⟩ := h i List.mem_cons_self
    have px : (part 3 (xs.map IW).toArray (i * 1)).run Try.prog w = .ok (.int .i64 (xs.getD i 0)) w := run_part_plain w (by kernel_rfl) (by simp [List.getD, h1])
    have py : (part 3 (ys.map IW).toArray (i * 1)).run Try.prog w = .ok (.int .i64 (ys.getD i 0)) w := run_part_plain w (by kernel_rfl) (by simp [List.getD, h2])
    have e : (Op.equalIn 9999 3 (.int .i64 (xs.getD i 0)) (.int .i64 (ys.getD i 0))).run Try.prog w = .ok (xs.getD i 0 == ys.getD i 0) w := run_equalIn_int w 9998 3 .i64 .i64 _ _ Try.underlying3
    simp only [Op.eqItems, Sem.run_bind, px, py, e, Result.andThen_ok]
    by_cases hx : xs.getD i 0 = ys.getD i 0
    · have h3 : (xs.getD i 0 == ys.getD i 0) = true := by simpa using hx
      simp only [h3, Bool.not_true, Bool.false_eq_true, if_false]
      rw [ih]
      congr 1
      exact decide_eq_decide.2 (by rw [List.forall_mem_cons]; exact ⟨fun h => ⟨hx, h⟩, fun h => h.2⟩)
    · have h3 : (xs.getD i 0 == ys.getD i 0) = false := by simpa using hx
      simp only [h3, Bool.not_false, if_true, Sem.run_pure]
      congr 1
      exact (decide_eq_false fun h => hx (h i List.mem_cons_self)).symm
set_option maxRecDepth 100000 in
theorem eq_16 (xs ys : List Int) (w : World) (hx : xs.length = 16) (hy : ys.length = 16) : (Op.equalIn 10000 60 (.agg (xs.map IW).toArray) (.agg (ys.map IW).toArray)).run Try.prog w = .ok (decide (xs = ys)) w := by
  obtain ⟨i, hi, _⟩ := info_parts elem3
  rw [show 10000 = 9999 + 1 from rfl, run_equalIn_array w 9999 _ _ Try.underlying60 hi, cells3, eq_items16 xs ys w _ fun i hi => by rw [List.mem_range] at hi; omega]
  congr 1
  refine decide_eq_decide.2 ⟨fun h => List.ext_getElem (by omega) fun i h1 h2 => ?_, fun h i _ => by rw [h]⟩
  have := h i (List.mem_range.2 (by omega))
  simpa [List.getD, h1, h2] using this

theorem u8b {b : Int} (w0 : (Lit.int .u8 b).wf = true) : 0 ≤ b ∧ b ≤ 255 := bounds_u8 w0
set_option maxHeartbeats 16000000 in
set_option maxRecDepth 100000 in
theorem GradeFoata_u (b : Int) (w : World) (hb : 0 ≤ b ∧ b ≤ 255) : Calls Try.prog 11 #[.int .u8 b] w fun e w' => e = .returned (.bool true) ∧ Below w.heap.size w w' := by
  obtain ⟨n, hn, hn1, hn6⟩ : ∃ n : Nat, 1 + b % 6 = (n : Int) ∧ 1 ≤ n ∧ n ≤ 6 := ⟨(1 + b % 6).toNat, by omega, by omega, by omega⟩
  obtain ⟨W, hW⟩ : ∃ W, ((((((w.alloc (.cells #[.int .i64 (n : Int)] 3)).alloc (.cells z16 60)).alloc (.cells z16 60)).alloc (.map #[] 0)).alloc (.cells #[.map (some (w.heap.size + 1 + 1 + 1))] 61)).alloc (.cells #[.bool true] 4)) = W := ⟨_, rfl⟩
  have K0 := Lib.hid (foa_start w W n z16 z16_eq hW)
  have HW := Lib.hid hW
  have hmk := @run_makeMap Try.prog
  clear hW
  go_enter Try.func11, Try.ntmps11
  go_wp2_with fail
  rw [HW.out]
  refine (all_walk n (w.heap.size + 6) 59 #[.pointer (some ⟨w.heap.size + 5, 0, none⟩), .pointer (some ⟨w.heap.size, 0, none⟩), .pointer (some ⟨w.heap.size + 4, 0, none⟩), .pointer (some ⟨w.heap.size + 1, 0, none⟩), .pointer (some ⟨w.heap.size + 2, 0, none⟩)] (fun i w' => FoI w w.heap.size n i w') (by omega) (fun _ _ => rfl) (Lib.hid fun _ _ _ h1 h2 => FoS.new h1 h2) (Lib.hid ?_) W K0.out.s6 K0.out).mono ?_
  · intro i l w1 a1 m c1 hl hI h1 hx _
    exact foa1 w w.heap.size n hn1 hn6 i l w1 a1 m c1 hl hI h1 hx
  rintro e w2 ⟨rfl, hI, _⟩
  obtain ⟨A, hA⟩ : ∃ A, hisL majL (allO n n []) = A := ⟨_, rfl⟩
  have hF : FoS w w.heap.size n (allO n n []).length A A (allO n n []).length (seenF (allO n n [])) w2 := by
    have h : FoS w w.heap.size n (allO n n []).length (hisL majL ((allO n n []).take (allO n n []).length)) (hisL invG ((allO n n []).take (allO n n []).length)) (allO n n []).length (seenF ((allO n n []).take (allO n n []).length)) w2 := hI
    rw [List.take_length, ← hisL_eq (by omega), hA] at h
    exact h
  have HF := Lib.hid hF
  have HAC : Hid (∀ t : Nat, t ≤ (n - 1) * (n - 1 + 1) / 2 → A.getD t 0 = (cnT (n - 1)).getD t 0) := Lib.hid fun t ht => by
    obtain ⟨m, rfl⟩ : ∃ m, n = m + 1 := ⟨n - 1, by omega⟩
    rw [← hA]
    exact his_cnt (by omega) ht (by
      have : m * (m + 1) / 2 ≤ 15 := by
        have : m * (m + 1) ≤ 5 * 6 := Nat.mul_le_mul (by omega) (by omega)
        omega
      have h9 : m + 1 - 1 = m := by omega
      rw [h9] at ht
      omega)
  have HAL : Hid (A.length = 16) := Lib.hid (by rw [← hA]; exact hisL_len _ _)
  have z5 := cellV hF.hg 0 rfl
  have z0 := cellV hF.hn 0 rfl
  have c0 := hF.ha.cell 0 0 (by rw [HAL.out]; omega)
  have d0 := hF.ht.cell 0 0 (by rw [HAL.out]; omega)
  obtain ⟨a0, h0⟩ : ∃ v, A.getD 0 0 = v := ⟨_, rfl⟩
  rw [h0] at c0 d0
  have c1 := hF.ha.cell 1 0 (by rw [HAL.out]; omega)
  have d1 := hF.ht.cell 1 0 (by rw [HAL.out]; omega)
  obtain ⟨a1, h1⟩ : ∃ v, A.getD 1 0 = v := ⟨_, rfl⟩
  rw [h1] at c1 d1
  have c2 := hF.ha.cell 2 0 (by rw [HAL.out]; omega)
  have d2 := hF.ht.cell 2 0 (by rw [HAL.out]; omega)
  obtain ⟨a2, h2⟩ : ∃ v, A.getD 2 0 = v := ⟨_, rfl⟩
  rw [h2] at c2 d2
  have c3 := hF.ha.cell 3 0 (by rw [HAL.out]; omega)
  have d3 := hF.ht.cell 3 0 (by rw [HAL.out]; omega)
  obtain ⟨a3, h3⟩ : ∃ v, A.getD 3 0 = v := ⟨_, rfl⟩
  rw [h3] at c3 d3
  have c4 := hF.ha.cell 4 0 (by rw [HAL.out]; omega)
  have d4 := hF.ht.cell 4 0 (by rw [HAL.out]; omega)
  obtain ⟨a4, h4⟩ : ∃ v, A.getD 4 0 = v := ⟨_, rfl⟩
  rw [h4] at c4 d4
  have c5 := hF.ha.cell 5 0 (by rw [HAL.out]; omega)
  have d5 := hF.ht.cell 5 0 (by rw [HAL.out]; omega)
  obtain ⟨a5, h5⟩ : ∃ v, A.getD 5 0 = v := ⟨_, rfl⟩
  rw [h5] at c5 d5
  have c6 := hF.ha.cell 6 0 (by rw [HAL.out]; omega)
  have d6 := hF.ht.cell 6 0 (by rw [HAL.out]; omega)
  obtain ⟨a6, h6⟩ : ∃ v, A.getD 6 0 = v := ⟨_, rfl⟩
  rw [h6] at c6 d6
  have c7 := hF.ha.cell 7 0 (by rw [HAL.out]; omega)
  have d7 := hF.ht.cell 7 0 (by rw [HAL.out]; omega)
  obtain ⟨a7, h7⟩ : ∃ v, A.getD 7 0 = v := ⟨_, rfl⟩
  rw [h7] at c7 d7
  have c8 := hF.ha.cell 8 0 (by rw [HAL.out]; omega)
  have d8 := hF.ht.cell 8 0 (by rw [HAL.out]; omega)
  obtain ⟨a8, h8⟩ : ∃ v, A.getD 8 0 = v := ⟨_, rfl⟩
  rw [h8] at c8 d8
  have c9 := hF.ha.cell 9 0 (by rw [HAL.out]; omega)
  have d9 := hF.ht.cell 9 0 (by rw [HAL.out]; omega)
  obtain ⟨a9, h9⟩ : ∃ v, A.getD 9 0 = v := ⟨_, rfl⟩
  rw [h9] at c9 d9
  have c10 := hF.ha.cell 10 0 (by rw [HAL.out]; omega)
  have d10 := hF.ht.cell 10 0 (by rw [HAL.out]; omega)
  obtain ⟨a10, h10⟩ : ∃ v, A.getD 10 0 = v := ⟨_, rfl⟩
  rw [h10] at c10 d10
  have c11 := hF.ha.cell 11 0 (by rw [HAL.out]; omega)
  have d11 := hF.ht.cell 11 0 (by rw [HAL.out]; omega)
  obtain ⟨a11, h11⟩ : ∃ v, A.getD 11 0 = v := ⟨_, rfl⟩
  rw [h11] at c11 d11
  have c12 := hF.ha.cell 12 0 (by rw [HAL.out]; omega)
  have d12 := hF.ht.cell 12 0 (by rw [HAL.out]; omega)
  obtain ⟨a12, h12⟩ : ∃ v, A.getD 12 0 = v := ⟨_, rfl⟩
  rw [h12] at c12 d12
  have c13 := hF.ha.cell 13 0 (by rw [HAL.out]; omega)
  have d13 := hF.ht.cell 13 0 (by rw [HAL.out]; omega)
  obtain ⟨a13, h13⟩ : ∃ v, A.getD 13 0 = v := ⟨_, rfl⟩
  rw [h13] at c13 d13
  have c14 := hF.ha.cell 14 0 (by rw [HAL.out]; omega)
  have d14 := hF.ht.cell 14 0 (by rw [HAL.out]; omega)
  obtain ⟨a14, h14⟩ : ∃ v, A.getD 14 0 = v := ⟨_, rfl⟩
  rw [h14] at c14 d14
  have c15 := hF.ha.cell 15 0 (by rw [HAL.out]; omega)
  have d15 := hF.ht.cell 15 0 (by rw [HAL.out]; omega)
  obtain ⟨a15, h15⟩ : ∃ v, A.getD 15 0 = v := ⟨_, rfl⟩
  rw [h15] at c15 d15
  clear h0 h1 h2 h3 h4 h5 h6 h7 h8 h9 h10 h11 h12 h13 h14 h15
  clear hI hA hF
  have hq : ∀ w, (Op.equalIn 10000 60 (.agg #[.int .i64 a0, .int .i64 a1, .int .i64 a2, .int .i64 a3, .int .i64 a4, .int .i64 a5, .int .i64 a6, .int .i64 a7, .int .i64 a8, .int .i64 a9, .int .i64 a10, .int .i64 a11, .int .i64 a12, .int .i64 a13, .int .i64 a14, .int .i64 a15]) (.agg #[.int .i64 a0, .int .i64 a1, .int .i64 a2, .int .i64 a3, .int .i64 a4, .int .i64 a5, .int .i64 a6, .int .i64 a7, .int .i64 a8, .int .i64 a9, .int .i64 a10, .int .i64 a11, .int .i64 a12, .int .i64 a13, .int .i64 a14, .int .i64 a15])).run Try.prog w = .ok true w := fun w => by
    have := eq_16 [a0, a1, a2, a3, a4, a5, a6, a7, a8, a9, a10, a11, a12, a13, a14, a15] [a0, a1, a2, a3, a4, a5, a6, a7, a8, a9, a10, a11, a12, a13, a14, a15] w rfl rfl
    rw [decide_eq_true rfl] at this
    exact this
  obtain ⟨P, hP⟩ : ∃ P, n * (n - 1) = P := ⟨_, rfl⟩
  have hP30 : P ≤ 30 := by rw [← hP]; exact Nat.mul_le_mul hn6 (by omega : n - 1 ≤ 5)
  have m1 : (n : Int) * ((n : Int) - 1) = (P : Int) := by
    rw [← hP, Int.natCast_mul, show ((n - 1 : Nat) : Int) = (n : Int) - 1 by omega]
  obtain ⟨D, hD⟩ : ∃ D, P / 2 = D := ⟨_, rfl⟩
  have hD15 : D ≤ 15 := by omega
  have m2 : (P : Int) / 2 = (D : Int) := by omega
  have HAD : Hid (∀ t : Nat, t ≤ D → cntE (n : Int) (t : Int) = 0 ∧ cntR (n : Int) (t : Int) = A.getD t 0) := Lib.hid fun t ht => by
    have h0 : cntE (n : Int) (t : Int) = 0 := cntE_ok (by rw [m1]; omega)
    refine ⟨h0, ?_⟩
    rw [cntR_ok h0, HAC.out t (by rw [show n - 1 + 1 = n by omega, Nat.mul_comm, hP, hD]; exact ht)]
  clear hP hD HAC
  go_wp2_with fail
  clear z5 z0 c0 d0 c1 d1 c2 d2 c3 d3 c4 d4 c5 d5 c6 d6 c7 d7 c8 d8 c9 d9 c10 d10 c11 d11 c12 d12 c13 d13 c14 d14 c15 d15 hq
  have k2 := HF.out.bel
  go_loopw [8] (fun vi wr => ∃ k : Nat, k ≤ D + 1 ∧ vi = .int .i64 (k : Int) ∧ Below w2.heap.size w2 wr) (fun vi _ => D + 1 - (intOf vi).toNat)
  case atStart => exact ⟨0, by omega, rfl, Below.refl _ _⟩
  case round =>
    obtain ⟨k, hk, rfl, hbk⟩ := hrel
    have hFk := HF.out.new hbk
    have z0 := cellV hFk.hn 0 rfl
    by_cases hkD : k ≤ D
    · have q1 : (k : Int) ≤ (D : Int) := by omega
      obtain ⟨hE, hR⟩ := HAD.out k hkD
      obtain ⟨ck, hck⟩ : ∃ v, A.getD k 0 = v := ⟨_, rfl⟩
      rw [hck] at hR
      have HC := Lib.hid (Count_c (n : Int) (k : Int) wr hE hR)
      have HCK := Lib.hid hck
      have t1 : (ck != ck) = false := by simp
      clear hE hR hck hFk
      go_wp2_with fail
      refine HC.out.mono ?_
      rintro e w4 ⟨rfl, b4⟩
      have hb4 := hbk.trans (b4.mono hbk.size)
      have c1 := (HF.out.new hb4).ha.cell k 0 (by rw [HAL.out]; omega)
      rw [HCK.out] at c1
      have q2 : (k : Int) < 16 := by omega
      clear b4 z0 HC
      go_wp2_with fail
      go_roundw
      case rel => first | exact ⟨k + 1, by omega, by go_num, hb4⟩ | ((repeat apply Exists.intro); exact ⟨⟨k + 1, by omega, by go_num, hb4⟩, rfl⟩)
      case measure => (simp [intOf] <;> omega)
    · have q1 : ¬ (k : Int) ≤ (D : Int) := by omega
      have kk := HF.out.bel.trans (hbk.mono (by have := HF.out.s6; omega))
      clear hFk
      go_wp2_with fail
      refine (works_any _).mono ?_
      rintro e w5 ⟨rfl, b5⟩
      go_wp2
      go_ret
      exact ⟨rfl, kk.trans (b5.mono kk.size)⟩
theorem GradeFoata_any (a0 : Int) (w0 : (Lit.int .u8 a0).wf = true) (w : World) : Calls Try.prog 11 #[.int .u8 a0] w fun e w' => e = .returned (.bool true) ∧ Below w.heap.size w w' :=
  GradeFoata_u a0 w (u8b w0)
end Go.Proofs.Ytmcckngodaeojaa
