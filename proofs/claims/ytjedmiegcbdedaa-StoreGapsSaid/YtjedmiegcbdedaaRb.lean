/- Walks of the references of chapter 11: counts. -/
import Derived.Test.YtjedmiegcbdedaaRa
import Derived.IntWalk
namespace Go.Proofs.Ytjedmiegcbdedaa
open Go.RowKit Store11

theorem in_yes (n lo hi : Int) (w : World) (h0 : lo ≤ n) (h1 : n ≤ hi) : Calls Try.prog 69 #[.int .i64 n, .int .i64 lo, .int .i64 hi] w fun e w' => e = .returned (.bool true) ∧ w = w' := by
  have hd : decide (n ≤ hi) = true := by simpa using h1
  have hd0 : decide (lo ≤ n) = true := by simpa using h0
  go_enter Try.func69, Try.ntmps69
  go_wp2
  go_ret
  exact ⟨rfl, rfl⟩
theorem in_no (n lo hi : Int) (w : World) (h : ¬ (lo ≤ n ∧ n ≤ hi)) : Calls Try.prog 69 #[.int .i64 n, .int .i64 lo, .int .i64 hi] w fun e w' => e = .returned (.bool false) ∧ w = w' := by
  by_cases h0 : lo ≤ n
  · have hd : decide (n ≤ hi) = false := by simp; omega
    have hd0 : decide (lo ≤ n) = true := by simpa using h0
    clear h
    go_enter Try.func69, Try.ntmps69
    go_wp2
    go_ret
    exact ⟨rfl, rfl⟩
  · have hd0 : decide (lo ≤ n) = false := by simpa using h0
    clear h
    go_enter Try.func69, Try.ntmps69
    go_wp2
    go_ret
    exact ⟨rfl, rfl⟩

set_option maxHeartbeats 1000000 in
set_option maxRecDepth 100000 in
theorem rinto_any : ∀ (m k x : Nat) (w : World), m < 10 → k + m < 11 → x < 11 →
    Calls Try.prog 65 #[.int .i64 (k : Int), .int .i64 (m : Int), .int .i64 ((x : Int) - 1)] w fun e w' => e = .returned (.int .i64 (intoR (k : Int) m ((x : Int) - 1))) ∧ w = w' := by
  intro m
  induction m with
  | zero =>
    intro k x w hm hk hx
    obtain ⟨want, hw⟩ : ∃ want : Int, (x : Int) - 1 = want := ⟨_, rfl⟩
    rw [hw]
    clear hw
    rcases (by omega : want < 0 ∨ (0 ≤ want ∧ (k : Int) = want) ∨ (0 ≤ want ∧ (k : Int) ≠ want)) with h | ⟨h, h'⟩ | ⟨h, h'⟩
    · have hv : intoR (k : Int) 0 want = 1 := by rw [intoR, if_pos (.inl h)]
      have hd : decide (want < 0) = true := by simpa using h
      have HV := Lib.hid hv
      clear hv
      go_enter Try.func65, Try.ntmps65
      go_wp2_with fail
      go_ret
      exact ⟨ret_i HV.out.symm, rfl⟩
    · have hv : intoR (k : Int) 0 want = 1 := by rw [intoR, if_pos (.inr h')]
      have hd : decide (want < 0) = false := by simpa using h
      have he : ((k : Int) == want) = true := by simpa using h'
      have HV := Lib.hid hv
      clear hv h'
      go_enter Try.func65, Try.ntmps65
      go_wp2_with fail
      go_ret
      exact ⟨ret_i HV.out.symm, rfl⟩
    · have hv : intoR (k : Int) 0 want = 0 := by rw [intoR, if_neg (by omega)]
      have hd : decide (want < 0) = false := by simpa using h
      have he : ((k : Int) == want) = false := by simpa using h'
      have HV := Lib.hid hv
      clear hv h'
      go_enter Try.func65, Try.ntmps65
      go_wp2_with fail
      go_ret
      exact ⟨ret_i HV.out.symm, rfl⟩
  | succ m ih =>
    intro k x w hm hk hx
    have c1 := ih k x w (by omega) (by omega) hx
    have c2 := ih (k + 1) x w (by omega) (by omega) hx
    have b1 := intoR_small m (by omega) k (by omega) (by omega) x hx
    have b2 := intoR_small m (by omega) (k + 1) (by omega) (by omega) x hx
    have b3 := intoR_small (m + 1) hm k (by omega) (by omega) x hx
    have hv : intoR (k : Int) (m + 1) ((x : Int) - 1) = (k : Int) * intoR (k : Int) m ((x : Int) - 1) + intoR ((k : Int) + 1) m ((x : Int) - 1) := rfl
    rw [hv] at b3 ⊢
    rw [show ((k + 1 : Nat) : Int) = (k : Int) + 1 by omega] at c2 b2
    generalize intoR (k : Int) m ((x : Int) - 1) = v1 at *
    generalize intoR ((k : Int) + 1) m ((x : Int) - 1) = v2 at *
    obtain ⟨want, hw⟩ : ∃ want : Int, (x : Int) - 1 = want := ⟨_, rfl⟩
    rw [hw] at c1 c2 ⊢
    have hb : -1 ≤ want ∧ want ≤ 10 := by omega
    obtain ⟨p, hp⟩ : ∃ p, (k : Int) * v1 = p := ⟨_, rfl⟩
    have hp0 : 0 ≤ p := by rw [← hp]; exact Int.mul_nonneg (by omega) b1.1
    rw [hp] at b3
    have C1 := Lib.hid c1
    have C2 := Lib.hid c2
    have HP := Lib.hid hp
    have hz : ((m : Int) + 1 == 0) = false := by simp; omega
    clear c1 c2 ih hv hw
    go_enter Try.func65, Try.ntmps65
    go_wp2_with fail
    refine C1.out.mono ?_
    rintro e w' ⟨rfl, rfl⟩
    go_wp2_with fail
    refine C2.out.mono ?_
    rintro e w' ⟨rfl, rfl⟩
    go_wp2_with fail
    go_ret
    exact ⟨ret_i (by rw [HP.out]), rfl⟩

set_option maxHeartbeats 1000000 in
theorem rinto_c (k m want v : Int) (w : World) (hm : 0 ≤ m ∧ m ≤ 9) (hk : 0 ≤ k ∧ k + m ≤ 10) (hw : -1 ≤ want ∧ want ≤ 9) (hv : intoR k m.toNat want = v) : Calls Try.prog 65 #[.int .i64 k, .int .i64 m, .int .i64 want] w fun e w' => e = .returned (.int .i64 v) ∧ w = w' := by
  have := rinto_any m.toNat k.toNat (want + 1).toNat w (by omega) (by omega) (by omega)
  rw [show ((m.toNat : Nat) : Int) = m by omega, show ((k.toNat : Nat) : Int) = k by omega, show (((want + 1).toNat : Nat) : Int) - 1 = want by omega, hv] at this
  exact this

set_option maxHeartbeats 1000000 in
theorem rCount_any (n : Int) (w : World) : Calls Try.prog 24 #[.int .i64 n] w fun e w' => e = .returned (.tuple #[.int .i64 (countV n), .int .i64 (countE n)]) ∧ w = w' := by
  by_cases hn : 1 ≤ n ∧ n ≤ 9
  · have HE : Hid (countE n = 0) := Lib.hid (by rw [countE, if_pos hn])
    have HV : Hid (intoR 0 n.toNat (-1) = countV n) := Lib.hid (by rw [countV, if_pos hn]; exact intoR_count n.toNat (by omega))
    have hn1 := hn.1
    have hn2 := hn.2
    clear hn
    go_enter Try.func24, Try.ntmps24
    go_wp2_with (first
      | (go_at_call 69; refine (in_yes _ _ _ _ hn1 hn2).mono ?_; rintro e w' ⟨rfl, rfl⟩)
      | (go_at_call 65; refine (rinto_c 0 n (-1) _ _ ⟨by omega, hn2⟩ ⟨by omega, by omega⟩ ⟨by omega, by omega⟩ HV.out).mono ?_; rintro e w' ⟨rfl, rfl⟩))
    go_ret2
    exact ⟨ret_ii rfl HE.out.symm, rfl⟩
  · have HE : Hid (countE n = 1) := Lib.hid (by rw [countE, if_neg hn])
    have HV : Hid (countV n = 0) := Lib.hid (by rw [countV, if_neg hn])
    have HN := Lib.hid hn
    clear hn
    go_enter Try.func24, Try.ntmps24
    go_wp2_with (go_at_call 69; refine (in_no _ _ _ _ HN.out).mono ?_; rintro e w' ⟨rfl, rfl⟩)
    go_ret2
    exact ⟨ret_ii HV.out.symm HE.out.symm, rfl⟩

set_option maxHeartbeats 1000000 in
set_option maxRecDepth 100000 in
theorem rInto_any (n k : Int) (w : World) : Calls Try.prog 26 #[.int .i64 n, .int .i64 k] w fun e w' => e = .returned (.tuple #[.int .i64 (intoV n k), .int .i64 (intoE n k)]) ∧ w = w' := by
  by_cases hn : 1 ≤ n ∧ n ≤ 9
  · have hn1 := hn.1
    have hn2 := hn.2
    by_cases hk : 1 ≤ k ∧ k ≤ n
    · have HE : Hid (intoE n k = 0) := Lib.hid (by rw [intoE, if_pos ⟨hn, hk⟩])
      have HV : Hid (intoR 0 n.toNat k = intoV n k) := Lib.hid (by
        rw [intoV, if_pos ⟨hn, hk⟩]
        have := intoR_row n.toNat (by omega) k.toNat (by omega)
        rwa [show ((k.toNat : Nat) : Int) = k by omega] at this)
      have hk1 := hk.1
      have hk2 := hk.2
      clear hn hk
      go_enter Try.func26, Try.ntmps26
      go_wp2_with fail
      refine (in_yes _ _ _ _ hn1 hn2).mono ?_
      rintro e w' ⟨rfl, rfl⟩
      go_wp2_with fail
      refine (in_yes _ _ _ _ hk1 hk2).mono ?_
      rintro e w' ⟨rfl, rfl⟩
      go_wp2_with (go_at_call 65; refine (rinto_c 0 n k _ _ ⟨by omega, hn2⟩ ⟨by omega, by omega⟩ ⟨by omega, by omega⟩ HV.out).mono ?_; rintro e w' ⟨rfl, rfl⟩)
      go_ret2
      exact ⟨ret_ii rfl HE.out.symm, rfl⟩
    · have HV : Hid (intoV n k = 0) := Lib.hid (by rw [intoV, if_neg (fun h => hk h.2)])
      have HE : Hid (intoE n k = 1) := Lib.hid (by rw [intoE, if_neg (fun h => hk h.2)])
      have HK := Lib.hid hk
      clear hn hk
      go_enter Try.func26, Try.ntmps26
      go_wp2_with fail
      refine (in_yes _ _ _ _ hn1 hn2).mono ?_
      rintro e w' ⟨rfl, rfl⟩
      go_wp2_with fail
      refine (in_no _ _ _ _ HK.out).mono ?_
      rintro e w' ⟨rfl, rfl⟩
      go_wp2_with fail
      go_ret2
      exact ⟨ret_ii HV.out.symm HE.out.symm, rfl⟩
  · have HV : Hid (intoV n k = 0) := Lib.hid (by rw [intoV, if_neg (fun h => hn h.1)])
    have HE : Hid (intoE n k = 1) := Lib.hid (by rw [intoE, if_neg (fun h => hn h.1)])
    have HN := Lib.hid hn
    clear hn
    go_enter Try.func26, Try.ntmps26
    go_wp2_with (go_at_call 69; refine (in_no _ _ _ _ HN.out).mono ?_; rintro e w' ⟨rfl, rfl⟩)
    go_ret2
    exact ⟨ret_ii HV.out.symm HE.out.symm, rfl⟩
end Go.Proofs.Ytjedmiegcbdedaa
