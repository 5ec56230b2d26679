/- Walks of chapter 5 at the top seat: the examples; a wrapper by numbers. -/
import Derived.Test.YtpfaoagddgcmbaaDoorWu
import Derived.Laws.ResultCell
namespace Go.Proofs.YtpfaoagddgcmbaaDoor
open Go.RowKit Wrap05 Dock01 Grade03
set_option maxRecDepth 100000
theorem rdL_c : rdL 12 5 4 = [0, 3, 1, 2] := by decide +kernel
set_option maxHeartbeats 4000000 in
theorem turnsWork_any (w : World) (hT : Tab w) : Calls Tryd.prog 36 #[] w fun e w' => e = .returned (.bool true) ∧ Below w.heap.size w w' := by
  have HT := Lib.hid hT
  have HC : Hid (∀ w, Calls Tryd.prog 37 #[.agg #[.int .i64 12, .int .i64 5, .int .i64 4]] w fun e w' => ∃ a c, e = .returned (.tuple #[.slice a 4 c, .int .i64 0]) ∧ IsL w' a 4 c [0, 3, 1, 2] ∧ Below w.heap.size w w') := Lib.hid (fun w => by
    have h := Round_ok 12 5 4 w (by decide) (by decide) (by decide) (by decide) (by decide)
    rw [rdL_c] at h
    exact h)
  clear hT
  go_enter Tryd.func36, Tryd.ntmps36
  go_wp2_with fail
  refine (HC.out _).mono ?_
  rintro e w1 ⟨a, c, rfl, h1, k1⟩
  have hs1 := k1.size
  have hcap := h1.cap
  have hle := h1.le
  go_wp2_with fail
  refine (list_any _ _ _ _).mono ?_
  rintro e w2 ⟨rfl, rfl⟩
  go_wp2_with fail
  have k2 := k1.alloc hs1 (.cells #[.int .i64 2, .int .i64 0] 3)
  have h2 := h1.alloc (.cells #[.int .i64 2, .int .i64 0] 3)
  refine (Turns_c _ _ (isL_litAt w1 [2, 0] _ _ _ _ rfl rfl rfl (by decide))).mono ?_
  rintro e w3 ⟨a3, c3, rfl, h3, b3⟩
  have h2' := h2.below b3
  have k3 := k2.trans (b3.mono k2.size)
  have hs3 := k3.size
  have hcap3 := h3.cap
  have hle3 := h3.le
  clear b3 k2 k1 h1 h2
  go_wp2_with fail
  refine (list_any _ _ _ _).mono ?_
  rintro e w4 ⟨rfl, rfl⟩
  go_wp2_with fail
  have k5 : Below w.heap.size w (w3.alloc (.cells #[.int .i64 0, .int .i64 3, .int .i64 1, .int .i64 2] 3)) := k3.alloc hs3 _
  have h3' := h3.alloc (.cells #[.int .i64 0, .int .i64 3, .int .i64 1, .int .i64 2] 3)
  refine (same_yes _ _ _ _ _ _ [0, 3, 1, 2] [0, 3, 1, 2] _ (h2'.alloc _) (isL_litAt w3 [0, 3, 1, 2] _ _ _ _ rfl rfl rfl (by decide)) rfl).mono ?_
  rintro e w5 ⟨rfl, b5⟩
  have h3'' := h3'.below b5
  have k6 := k5.trans (b5.mono k5.size)
  have hs6 := k6.size
  clear b5 k5 k3 h3 h3' h2'
  go_wp2_with fail
  refine (list_any _ _ _ _).mono ?_
  rintro e w6 ⟨rfl, rfl⟩
  go_wp2_with fail
  have k7 : Below w.heap.size w (w5.alloc (.cells #[.int .i64 0, .int .i64 1, .int .i64 3] 3)) := k6.alloc hs6 _
  refine (same_yes _ _ _ _ _ _ [0, 1, 3] [0, 1, 3] _ (h3''.alloc _) (isL_litAt w5 [0, 1, 3] _ _ _ _ rfl rfl rfl (by decide)) rfl).mono ?_
  rintro e w7 ⟨rfl, b7⟩
  have k8 := k7.trans (b7.mono k7.size)
  clear b7 k7 h3''
  go_wp2_with fail
  refine (gradesWork_any _ (HT.out.below k8)).mono ?_
  rintro e w9 ⟨rfl, b9⟩
  have k9 := k8.trans (b9.mono k8.size)
  go_wp2_with fail
  go_ret
  exact ⟨rfl, k9⟩
/-- a turn that comes back to mark 0 is no later than the number of all turns says -/
theorem all_le {M s i : Nat} (hM : 1 ≤ M) (hno : ∀ j, 1 ≤ j → j < i → j * s % M ≠ 0) : i ≤ M / Nat.gcd M s := by
  apply Nat.not_lt.1
  intro hlt
  have hg0 : 0 < Nat.gcd M s := Nat.gcd_pos_of_pos_left _ (by omega)
  have hgM : Nat.gcd M s ≤ M := Nat.le_of_dvd (by omega) (Nat.gcd_dvd_left M s)
  refine hno (M / Nat.gcd M s) (Nat.div_pos hgM hg0) hlt ?_
  obtain ⟨u, hu⟩ := Nat.gcd_dvd_right M s
  obtain ⟨v, hv⟩ := Nat.gcd_dvd_left M s
  generalize Nat.gcd M s = g at *
  have e1 : M / g = v := by rw [hv]; exact Nat.mul_div_cancel_left v hg0
  rw [e1, hu]
  have e2 : v * (g * u) = M * u := by rw [hv]; ac_rfl
  rw [e2]
  exact Nat.mul_mod_right M u
theorem all_lt {M s i : Nat} (hi : 1 ≤ i) (hiM : i ≤ M) (h0 : i * s % M ≠ 0) : i < M := by
  rcases Nat.lt_or_ge i M with h | h
  · exact h
  · exfalso
    obtain rfl : i = M := by omega
    exact h0 (Nat.mul_mod_right _ _)
set_option maxHeartbeats 4000000 in
theorem wound_any (mx sx tx : Int) (w : World) (hm0 : 0 ≤ mx ∧ mx < 256) (hs0 : 0 ≤ sx ∧ sx < 256) (ht0 : 0 ≤ tx ∧ tx < 256) :
    Calls Tryd.prog 35 #[.int .u8 mx, .int .u8 sx, .int .u8 tx, .int .i64 60] w fun e w' => ∃ M s T : Nat, e = .returned (WrpA M s T) ∧ (1 ≤ M ∧ M ≤ 60 ∧ s < M ∧ 1 ≤ T ∧ T ≤ M / Nat.gcd M s) ∧ Below w.heap.size w w' := by
  obtain ⟨hm1, hm2⟩ := hm0
  obtain ⟨hs1, hs2⟩ := hs0
  obtain ⟨ht1, ht2⟩ := ht0
  have m1 := Int.emod_nonneg mx (b := 60) (by omega)
  have m2 := Int.emod_lt_of_pos mx (b := 60) (by omega)
  obtain ⟨M, hM⟩ : ∃ M : Nat, 1 + mx % 60 = (M : Int) := ⟨(1 + mx % 60).toNat, by omega⟩
  have M1 : 1 ≤ M := by omega
  have M60 : M ≤ 60 := by omega
  have w1 : IntKind.i64.wrap (1 + mx % 60) = (M : Int) := by rw [hM]; exact IntWalk.i64_in _ (by omega)
  have m3 := Int.emod_nonneg sx (b := (M : Int)) (by omega)
  have m4 := Int.emod_lt_of_pos sx (b := (M : Int)) (by omega)
  obtain ⟨s, hs⟩ : ∃ s : Nat, sx % (M : Int) = (s : Int) := ⟨(sx % (M : Int)).toNat, by omega⟩
  have sM : s < M := by omega
  have q0 : (0 : Int) < (M : Int) := by omega
  have q1 : ¬ M = 0 := by omega
  clear m1 m2 m3 m4 hM
  go_enter Tryd.func35, Tryd.ntmps35
  go_wp2_with fail
  (try rw [hs])
  obtain ⟨W, hW⟩ : ∃ W, (w.alloc (.cells #[.int .i64 0, .int .i64 0, .int .i64 0] 54)).alloc (.cells #[.int .i64 (M : Int), .int .i64 (s : Int), .int .i64 0] 54) = W := ⟨_, rfl⟩
  have hA : WrpV W w.heap.size 0 0 0 := by
    rw [← hW]
    exact ArrV.alloc (ArrV.new (f := VT) w _ _ [.int .i64 0, .int .i64 0, .int .i64 0] _ rfl rfl) _
  have hB : WrpV W (w.heap.size + 1) M s 0 := by
    rw [← hW]
    exact ArrV.new _ _ _ _ _ (by simp) rfl
  have hk : Below w.heap.size w W := by
    rw [← hW]
    exact ((Below.refl _ w).alloc (Nat.le_refl _) _).alloc (by simp) _
  rw [hW]
  clear hW hs w1
  have c0 : W.cell? ⟨w.heap.size + 1, 0, none⟩ = some (.int .i64 (M : Int)) := cellT hB 0 rfl
  have c1 : W.cell? ⟨w.heap.size + 1, 1, none⟩ = some (.int .i64 (s : Int)) := cellT hB 1 rfl
  have c2 : W.cell? ⟨w.heap.size + 1, 2, none⟩ = some (.int .i64 0) := cellT hB 2 rfl
  have f2 := ArrV.frozen hB 2
  have HA := Lib.hid hA
  have HB := Lib.hid hB
  clear hA hB
  have hz1 : 1 * s % M = s := by rw [Nat.one_mul]; exact Nat.mod_eq_of_lt sM
  have HZ1 := Lib.hid hz1
  clear hz1
  go_loopw [10, 11] (fun va vm wr => ∃ i m : Nat, 1 ≤ i ∧ i ≤ M ∧ va = .int .i64 (i : Int) ∧ vm = .int .i64 (m : Int) ∧ m < M ∧ Hid (i * s % M = m) ∧ Hid (∀ j, 1 ≤ j → j < i → j * s % M ≠ 0) ∧ W = wr) (fun va _ _ => M - (intOf va).toNat)
  case atStart => exact ⟨1, s, by omega, by omega, rfl, rfl, sM, HZ1, Lib.hid (fun j h1 h2 => by omega), rfl⟩
  case round =>
    obtain ⟨i, m, hi1, hiM, rfl, rfl, hmM, hE, hN, rfl⟩ := hrel
    have w9 : IntKind.i64.wrap ((i : Int) + 1) = (i : Int) + 1 := IntWalk.i64_in _ (by omega)
    by_cases h0 : m = 0
    · have hall := all_le (s := s) M1 hN.out
      have q2 : ((m : Int) != 0) = false := by simp [h0]
      have q3 : (0 : Int) < (i : Int) := by omega
      have q4 : ¬ i = 0 := by omega
      have m3 := Int.emod_nonneg tx (b := (i : Int)) (by omega)
      have m4 := Int.emod_lt_of_pos tx (b := (i : Int)) (by omega)
      obtain ⟨T, hT⟩ : ∃ T : Nat, 1 + tx % (i : Int) = (T : Int) := ⟨(1 + tx % (i : Int)).toNat, by omega⟩
      have T1 : 1 ≤ T := by omega
      have TA : T ≤ M / Nat.gcd M s := by omega
      have w1 : IntKind.i64.wrap (1 + tx % (i : Int)) = (T : Int) := by rw [hT]; exact IntWalk.i64_in _ (by omega)
      have d0 : W.cell? ⟨w.heap.size, 0, none⟩ = some (.int .i64 0) := cellT HA.out 0 rfl
      have d1 : W.cell? ⟨w.heap.size, 1, none⟩ = some (.int .i64 0) := cellT HA.out 1 rfl
      have d2 : W.cell? ⟨w.heap.size, 2, none⟩ = some (.int .i64 0) := cellT HA.out 2 rfl
      have g0 := ArrV.frozen HA.out 0
      have g1 := ArrV.frozen HA.out 1
      have g2 := ArrV.frozen HA.out 2
      have HTA := Lib.hid TA
      clear h0 hall m3 m4 hT hE hN TA
      go_wp2
      (try rw [Exit.noGoto_ret])
      have hb7 : Below w.heap.size w ((((W.setCell ⟨w.heap.size + 1, 2, none⟩ (.int .i64 (T : Int))).setCell ⟨w.heap.size, 0, none⟩ (.int .i64 (M : Int))).setCell ⟨w.heap.size, 1, none⟩ (.int .i64 (s : Int))).setCell ⟨w.heap.size, 2, none⟩ (.int .i64 (T : Int))) := (((hk.setCell (by simp) _).setCell (by simp) _).setCell (by simp) _).setCell (by simp) _
      have hA7 : WrpV ((((W.setCell ⟨w.heap.size + 1, 2, none⟩ (.int .i64 (T : Int))).setCell ⟨w.heap.size, 0, none⟩ (.int .i64 (M : Int))).setCell ⟨w.heap.size, 1, none⟩ (.int .i64 (s : Int))).setCell ⟨w.heap.size, 2, none⟩ (.int .i64 (T : Int))) w.heap.size M s T := (((ArrV.other HA.out (p := ⟨w.heap.size + 1, 2, none⟩) (by simp) _).set 0 (VT (.int .i64 (M : Int)))).set 1 (VT (.int .i64 (s : Int)))).set 2 (VT (.int .i64 (T : Int)))
      generalize ((((W.setCell ⟨w.heap.size + 1, 2, none⟩ (.int .i64 (T : Int))).setCell ⟨w.heap.size, 0, none⟩ (.int .i64 (M : Int))).setCell ⟨w.heap.size, 1, none⟩ (.int .i64 (s : Int))).setCell ⟨w.heap.size, 2, none⟩ (.int .i64 (T : Int))) = WE at *
      have e0 : WE.cell? ⟨w.heap.size, 0, none⟩ = some (.int .i64 (M : Int)) := cellT hA7 0 rfl
      have e1 : WE.cell? ⟨w.heap.size, 1, none⟩ = some (.int .i64 (s : Int)) := cellT hA7 1 rfl
      have e2 : WE.cell? ⟨w.heap.size, 2, none⟩ = some (.int .i64 (T : Int)) := cellT hA7 2 rfl
      refine bodyPost_ret (v := WrpA M s T) ?_ rfl ⟨M, s, T, rfl, ⟨M1, M60, sM, T1, HTA.out⟩, hb7⟩
      simp [results, Tryd.results35, go_sem, e0, e1, e2]
    · have q2 : ((m : Int) != 0) = true := by simp; omega
      have hne : i * s % M ≠ 0 := by rw [hE.out]; exact h0
      have hlt := all_lt hi1 hiM hne
      have w8 : IntKind.i64.wrap ((m : Int) + (s : Int)) = (m : Int) + (s : Int) := IntWalk.i64_in _ (by omega)
      obtain ⟨m', hm'⟩ : ∃ m', (m + s) % M = m' := ⟨_, rfl⟩
      have hm2 : m' < M := by rw [← hm']; exact Nat.mod_lt _ (by omega)
      have w7 : ((m : Int) + (s : Int)) % (M : Int) = (m' : Int) := by rw [← hm']; push_cast; rfl
      have HW7 := Lib.hid w7
      have HE : Hid ((i + 1) * s % M = m') := Lib.hid (by rw [← hm', Nat.add_mul, Nat.one_mul, Nat.add_mod, hE.out, Nat.mod_eq_of_lt sM])
      have HN : Hid (∀ j, 1 ≤ j → j < i + 1 → j * s % M ≠ 0) := Lib.hid (fun j h1 h2 => by
        by_cases e : j = i
        · rw [e]; exact hne
        · exact hN.out j h1 (by omega))
      clear h0 hne hm' hE hN
      go_wp2_with fail
      exact ⟨⟨i + 1, m', by omega, by omega, by go_num, by (first | rfl | rw [HW7.out]), hm2, HE, HN, by simp⟩, by simp [intOf]; omega⟩
end Go.Proofs.YtpfaoagddgcmbaaDoor
