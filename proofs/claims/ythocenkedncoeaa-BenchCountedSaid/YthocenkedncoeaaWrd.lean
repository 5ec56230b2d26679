/- Walks of chapter 06: the reference, fourth part. -/
import Derived.Test.YthocenkedncoeaaWrc
namespace Go.Proofs.Ythocenkedncoeaa
open Go.RowKit Bench06

set_option maxHeartbeats 800000 in
theorem rCounted_ok (r c n : Int) (w : World) (h0 : 1 ≤ r) (h1 : r ≤ 20) (h2 : 1 ≤ c) (h3 : c ≤ 1000000000) (h4 : 0 ≤ n) (h5 : n ≤ r - 1) :
    Calls Try.prog 24 #[.int .i64 r, .int .i64 c, .int .i64 n] w fun e w' => e = .returned (.tuple #[.int .i64 (cntG c r.toNat (rng r.toNat) n), .int .i64 0]) ∧ Below w.heap.size w w' := by
  go_enter Try.func24, Try.ntmps24
  go_wp2_with (first
    | (go_at_call 46; refine (counted_ok _ _ _ h0 h1 h2 h3).mono ?_; rintro e w' ⟨rfl, rfl⟩)
    | (go_at_call 50; refine (in_yes _ _ _ _ h4 h5).mono ?_; rintro e w' ⟨rfl, rfl⟩)
    | (go_at_call 52; refine (rall_any _ _ (by omega) h1).mono ?_; rintro e w1 ⟨a0, c0, rfl, hown0, hb0⟩))
  have hl0 := hown0.isL
  clear hown0
  go_loopw [9, 10] (fun vn vs wr => ∃ (k m : Nat) (t : Int) (a : Option Addr) (ca : Nat) (l : List Int), k + m = r.toNat ∧ vn = .int .i64 t ∧ vs = .slice a m ca ∧ 0 ≤ t ∧ t ≤ k * 1000000001 ∧ IsL wr a m ca l ∧ Below w.heap.size w wr ∧ Hid (t + cntG c m l n = cntG c r.toNat (rng r.toNat) n)) (fun _ vs _ => lenOf vs)
  case atStart => exact ⟨0, r.toNat, 0, a0, c0, _, by omega, rfl, rfl, by omega, by omega, hl0, hb0, Lib.hid (by omega)⟩
  case round =>
    obtain ⟨k, m, t, a, ca, l, hk, rfl, rfl, ht0, ht1, hl, hb, heq⟩ := hrel
    have hk20 : k + m ≤ 20 := by omega
    have HK := Lib.hid hk
    clear hk
    by_cases hj : idxI l n < 0
    · have hv : t = cntG c r.toNat (rng r.toNat) n := by
        rw [← heq.out]
        cases m with
        | zero => rw [cntG]; omega
        | succ f => rw [cntG, if_pos hj]; omega
      have HV := Lib.hid hv
      clear hv heq
      go_wp2_with (go_at_call 51; refine (rplace_any _ _ _ _ _ _ hl).mono ?_; rintro e w' ⟨rfl, rfl⟩)
      go_ret2
      exact ⟨ret_i2 HV.out, hb⟩
    · have hmem : n ∈ l := Classical.byContradiction fun h => hj (by rw [idxI_not l n h]; omega)
      have hidx := idxI_mem l n hmem
      rw [hl.len] at hidx
      obtain ⟨i0, i1⟩ := hidx
      have hm0 : 0 < m := by omega
      obtain ⟨f, rfl⟩ : ∃ f, m = f + 1 := ⟨m - 1, by omega⟩
      have q0 := Int.emod_nonneg (c - 1) (show ((f : Int) + 1) ≠ 0 by omega)
      have q1 := Int.emod_lt_of_pos (c - 1) (show (0 : Int) < ((f : Int) + 1) by omega)
      have q2 := Int.emod_nonneg c (show ((f : Int) + 1) ≠ 0 by omega)
      have q3 := Int.emod_lt_of_pos c (show (0 : Int) < ((f : Int) + 1) by omega)
      have d0 := Int.ediv_nonneg (show 0 ≤ c by omega) (show 0 ≤ ((f : Int) + 1) by omega)
      have d1 := Int.ediv_le_self ((f : Int) + 1) (show 0 ≤ c by omega)
      have hne : (((f : Int) + 1) == 0) = false := by simp; omega
      have hf1 : ((f + 1 : Nat) : Int) = (f : Int) + 1 := by omega
      have hstep := heq.out
      rw [cntG, if_neg hj] at hstep
      by_cases hlt : idxI l n < c % ((f : Int) + 1)
      · rw [if_pos hlt] at hstep
        have HS : Hid (t + c / ((f : Int) + 1) + 1 + cntG c f (rotL l ((c - 1) % ((f : Int) + 1)).toNat) n = cntG c r.toNat (rng r.toNat) n) := Lib.hid (by rw [← hstep]; omega)
        clear hstep heq hmem
        have hdec : decide (idxI l n < c % ((f : Int) + 1)) = true := by simp; omega
        go_wp2_with (go_at_call 51; refine (rplace_any _ _ _ _ _ _ hl).mono ?_; rintro e w' ⟨rfl, rfl⟩)
        go_quiet ((go_at_call 51; exact Calls.quiet_of_same ((rplace_any _ _ _ _ _ _ (hl.drewN _)).mono (fun e w' h => ⟨h.1, h.2.symm⟩))))
        have hl6 := hl.drewN nq
        have hb6 := belowN hb nq
        clear hl hb
        generalize wr.drewN nq = wq at *
        go_wp2_with (go_at_call 53; refine (rafter_any _ _ _ _ _ _ hl6 q0 (by omega) (by omega)).mono ?_; rintro e w3 ⟨a3, c3, rfl, hl5, hb5, hv5⟩)
        go_roundw
        case rel => exact ⟨k + 1, f, _, a3, c3, _, by have := HK.out; omega, rfl, rfl, by omega, by omega, hl5, hb6.trans (hb5.mono hb6.size), HS⟩
        case measure => simp [lenOf]
      · rw [if_neg hlt] at hstep
        have HS : Hid (t + c / ((f : Int) + 1) + cntG c f (rotL l ((c - 1) % ((f : Int) + 1)).toNat) n = cntG c r.toNat (rng r.toNat) n) := Lib.hid (by rw [← hstep]; omega)
        clear hstep heq hmem
        have hdec : decide (idxI l n < c % ((f : Int) + 1)) = false := by simp; omega
        go_wp2_with (go_at_call 51; refine (rplace_any _ _ _ _ _ _ hl).mono ?_; rintro e w' ⟨rfl, rfl⟩)
        go_quiet ((go_at_call 51; exact Calls.quiet_of_same ((rplace_any _ _ _ _ _ _ (hl.drewN _)).mono (fun e w' h => ⟨h.1, h.2.symm⟩))))
        have hl6 := hl.drewN nq
        have hb6 := belowN hb nq
        clear hl hb
        generalize wr.drewN nq = wq at *
        go_wp2_with (go_at_call 53; refine (rafter_any _ _ _ _ _ _ hl6 q0 (by omega) (by omega)).mono ?_; rintro e w3 ⟨a3, c3, rfl, hl5, hb5, hv5⟩)
        go_roundw
        case rel => exact ⟨k + 1, f, _, a3, c3, _, by have := HK.out; omega, rfl, rfl, by omega, by omega, hl5, hb6.trans (hb5.mono hb6.size), HS⟩
        case measure => simp [lenOf]
theorem rCounted_none (r c n : Int) (w : World) (h0 : 1 ≤ r) (h1 : r ≤ 20) (h2 : 1 ≤ c) (h3 : c ≤ 1000000000) (h : ¬ (0 ≤ n ∧ n ≤ r - 1)) :
    Calls Try.prog 24 #[.int .i64 r, .int .i64 c, .int .i64 n] w fun e w' => e = .returned (.tuple #[.int .i64 0, .int .i64 2]) ∧ w = w' := by
  have H := Lib.hid h
  clear h
  go_enter Try.func24, Try.ntmps24
  go_wp2_with (first
    | (go_at_call 46; refine (counted_ok _ _ _ h0 h1 h2 h3).mono ?_; rintro e w' ⟨rfl, rfl⟩)
    | (go_at_call 50; refine (in_no _ _ _ _ H.out).mono ?_; rintro e w' ⟨rfl, rfl⟩))
  go_ret2
  exact ⟨rfl, rfl⟩
theorem rCounted_err (r c n : Int) (w : World) (h : ¬ (1 ≤ r ∧ r ≤ 20 ∧ 1 ≤ c ∧ c ≤ 1000000000)) :
    Calls Try.prog 24 #[.int .i64 r, .int .i64 c, .int .i64 n] w fun e w' => e = .returned (.tuple #[.int .i64 0, .int .i64 1]) ∧ w = w' := by
  have H := Lib.hid h
  clear h
  go_enter Try.func24, Try.ntmps24
  go_wp2_with (go_at_call 46; refine (counted_err _ _ _ H.out).mono ?_; rintro e w' ⟨rfl, rfl⟩)
  go_ret2
  exact ⟨rfl, rfl⟩
end Go.Proofs.Ythocenkedncoeaa
