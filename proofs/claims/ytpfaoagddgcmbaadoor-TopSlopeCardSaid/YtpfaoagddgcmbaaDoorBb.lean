/- Walks of chapter 4 at the top seat: blends by number. -/
import Derived.Test.YtpfaoagddgcmbaaDoorGa
import Derived.Test.YtpfaoagddgcmbaaDoorBl
import Derived.IntWalk
namespace Blend04
set_option maxRecDepth 100000
theorem chI_bound : ∀ n, n < 13 → ∀ i, i ≤ n → 1 ≤ chI n i ∧ chI n i ≤ 1000 := by decide +kernel
def okN : Nat → Nat → Bool
  | 0, _ => true
  | k + 1, m => decide (leafT (k + 1) m ≤ 10) && decide (m < chN (leafT (k + 1) m + 1) (k + 1)) && decide (m ≤ 1000) && okN k (restT (k + 1) m)
theorem okN_all : ∀ n, n < 8 → ∀ k, k ≤ n → ∀ m, m < chN n k → okN k m = true := by decide +kernel
theorem leafF_ge (k m : Nat) : ∀ f leaf, leaf ≤ leafF k m f leaf
  | 0, leaf => Nat.le_refl _
  | f + 1, leaf => by
    rw [leafF]
    split
    · have := leafF_ge k m f (leaf + 1); omega
    · omega
theorem nthL_len : ∀ k m, (nthL k m).length = k
  | 0, _ => rfl
  | k + 1, m => by rw [nthL, List.length_append, nthL_len]; rfl
end Blend04
namespace Go.Proofs.YtpfaoagddgcmbaaDoor
open Go.RowKit Blend04
set_option maxRecDepth 100000
theorem bwithin_yes (n lo hi : Int) (w : World) (h0 : lo ≤ n) (h1 : n ≤ hi) : Calls Tryd.prog 67 #[.int .i64 n, .int .i64 lo, .int .i64 hi] w fun e w' => e = .returned (.bool true) ∧ w = w' := by
  go_enter Tryd.func67, Tryd.ntmps67
  go_wp2
  go_ret
  exact ⟨rfl, rfl⟩
set_option maxHeartbeats 1000000 in
theorem chooseB_any (n k : Nat) (w : World) (hn : n ≤ 12) (hk : k ≤ 12) (v : Nat) (hv : chN n k = v) : Calls Tryd.prog 85 #[.int .i64 (n : Int), .int .i64 (k : Int)] w fun e w' => e = .returned (.int .i64 (v : Int)) ∧ w = w' := by
  by_cases hlt : n < k
  · have q1 : (n : Int) < (k : Int) := by omega
    have q0 : ¬ (k : Int) < 0 := by omega
    obtain rfl : v = 0 := by rw [← hv, chN, if_pos hlt]
    go_enter Tryd.func85, Tryd.ntmps85
    go_wp2
    go_ret
    exact ⟨rfl, rfl⟩
  · have q1 : ¬ (n : Int) < (k : Int) := by omega
    have q0 : ¬ (k : Int) < 0 := by omega
    have HV : Hid (chI n k = v) := Lib.hid (by rw [← hv, chN, if_neg hlt])
    clear hv
    go_enter Tryd.func85, Tryd.ntmps85
    go_wp2_with fail
    go_loopw [15, 5] (fun vi vo wr => ∃ i : Nat, i ≤ k ∧ vi = .int .i64 (i : Int) ∧ vo = .int .i64 (chI n i : Int) ∧ w = wr) (fun vi _ _ => k - (intOf vi).toNat)
    case atStart => exact ⟨0, by omega, rfl, rfl, rfl⟩
    case round =>
      obtain ⟨i, hi, rfl, rfl, rfl⟩ := hrel
      have w9 : IntKind.i64.wrap ((i : Int) + 1) = (i : Int) + 1 := IntWalk.i64_in _ (by omega)
      by_cases hik : i < k
      · have q2 : (i : Int) < (k : Int) := by omega
        obtain ⟨b1, b2⟩ := chI_bound n (by omega) i (by omega)
        obtain ⟨b3, b4⟩ := chI_bound n (by omega) (i + 1) (by omega)
        have w8 : IntKind.i64.wrap ((n : Int) - (i : Int)) = ((n - i : Nat) : Int) := by rw [IntWalk.i64_in _ (by omega)]; omega
        obtain ⟨M, hM⟩ : ∃ M, chI n i * (n - i) = M := ⟨_, rfl⟩
        have hM2 : M ≤ 12000 := by rw [← hM]; exact Nat.le_trans (Nat.mul_le_mul b2 (show n - i ≤ 12 by omega)) (by decide)
        have w7 : IntKind.i64.wrap ((chI n i : Int) * ((n - i : Nat) : Int)) = (M : Int) := by rw [← Int.natCast_mul, hM]; exact IntWalk.i64_in _ (by omega)
        have hd : chI n (i + 1) = M / (i + 1) := by rw [chI, hM]
        have w6 : ((M : Int)).tdiv ((i : Int) + 1) = (chI n (i + 1) : Int) := by
          rw [hd, Int.tdiv_eq_ediv_of_nonneg (by omega), Int.natCast_ediv]; simp
        have w5 : IntKind.i64.wrap (chI n (i + 1) : Int) = (chI n (i + 1) : Int) := IntWalk.i64_in _ (by omega)
        have q3 : (((i : Int) + 1) == 0) = false := by simp; omega
        have q4 : ¬ ((i : Int) + 1 = 0) := by omega
        clear hd hM
        go_wp2_with fail
        exact ⟨⟨i + 1, by omega, by go_num, rfl, by simp⟩, by simp [intOf]; omega⟩
      · obtain rfl : i = k := by omega
        go_wp2
        go_ret
        exact ⟨by rw [HV.out]; rfl, rfl⟩
theorem sized_ok (n k : Nat) (w : World) (h1 : 1 ≤ n) (h10 : n ≤ 10) (hk : k ≤ n) : Calls Tryd.prog 84 #[.int .i64 (n : Int), .int .i64 (k : Int)] w fun e w' => e = .returned (.int .i64 0) ∧ w = w' := by
  have H1 := Lib.hid (fun w => bwithin_yes (n : Int) 1 10 w (by omega) (by omega))
  have H2 := Lib.hid (fun w => bwithin_yes (k : Int) 0 (n : Int) w (by omega) (by omega))
  go_enter Tryd.func84, Tryd.ntmps84
  go_wp2_with fail
  refine (H1.out _).mono ?_
  rintro e w1 ⟨rfl, rfl⟩
  go_wp2_with fail
  refine (H2.out _).mono ?_
  rintro e w1 ⟨rfl, rfl⟩
  go_wp2_with fail
  go_ret
  exact ⟨rfl, rfl⟩
set_option maxHeartbeats 4000000 in
theorem nth_any (size num : Nat) (w : World) (h8 : size ≤ 8) (hN : okN size num = true) : Calls Tryd.prog 86 #[.int .i64 (size : Int), .int .i64 (num : Int)] w fun e w' => ∃ a, e = .returned (.slice a size size) ∧ OwnL w' 3 w.heap.size a size size (nthL size num) ∧ Below w.heap.size w w' := by
  have HN := Lib.hid hN
  clear hN
  go_enter Tryd.func86, Tryd.ntmps86
  go_wp2_with (at_make; refine wl_make (Value.int .i64) 0 (.int .i64 0) 8 w.heap.size Tryd.underlying23 elem3 rfl rfl (.tmp 8) (.tmp 8) rfl rfl size rfl rfl (by omega) (by omega) (Nat.le_refl _) ?_)
  intro w1 o1 g1 b1
  have O1 := Lib.hid (OwnG.ints o1)
  clear o1 g1
  go_wp2_with fail
  go_loopw [6, 1] (fun vk vn wr => ∃ (k m : Nat) (R : List Int), k ≤ size ∧ vk = .int .i64 (k : Int) ∧ vn = .int .i64 (m : Int) ∧ Hid (okN k m = true) ∧ Hid (nthL k m ++ R.drop k = nthL size num) ∧ Hid (OwnL wr 3 w.heap.size (some ⟨w.heap.size, 0, none⟩) size size R) ∧ Below w.heap.size w wr) (fun vk _ _ => (intOf vk).toNat)
  case atStart => exact ⟨size, num, _, Nat.le_refl _, rfl, rfl, HN, Lib.hid (by rw [List.drop_of_length_le (by simp), List.append_nil]), O1, b1⟩
  case round =>
    clear O1 b1
    obtain ⟨k, m, R, hk, rfl, rfl, hK, hE, hR, hb⟩ := hrel
    cases k with
    | zero =>
      have HF : Hid (R = nthL size num) := Lib.hid (by have := hE.out; simpa [nthL] using this)
      have q : ¬ (0 : Int) < 0 := by omega
      go_wp2
      go_ret
      exact ⟨_, rfl, by rw [← HF.out]; exact hR.out, hb⟩
    | succ j =>
      have hk0 := hK.out
      simp only [okN, Bool.and_eq_true, decide_eq_true_eq] at hk0
      obtain ⟨⟨⟨l10, lm⟩, m1000⟩, hkn⟩ := hk0
      have HKN := Lib.hid hkn
      have e0 : ((j + 1 : Nat) : Int) = (j : Int) + 1 := by omega
      have w9 : IntKind.i64.wrap ((j : Int) + 1 - 1) = (j : Int) := by rw [IntWalk.i64_in _ (by omega)]; omega
      have w9' : IntKind.i64.wrap (j : Int) = (j : Int) := IntWalk.i64_in _ (by omega)
      have q0 : (0 : Int) < (j : Int) + 1 := by omega
      rw [e0]
      clear hkn
      go_wp2_with fail
      go_loopw [7] (fun vl wx => ∃ leaf f : Nat, vl = .int .i64 (leaf : Int) ∧ leaf + f = j + 11 ∧ Hid (leafF (j + 1) m f leaf = leafT (j + 1) m) ∧ wr = wx) (fun vl _ => 30 - (intOf vl).toNat)
      case atStart => exact ⟨j, 11, by simp, rfl, Lib.hid rfl, rfl⟩
      case round =>
        obtain ⟨leaf, f, rfl, hlf, hL, rfl⟩ := hrel
        have hge := leafF_ge (j + 1) m f leaf
        rw [hL.out] at hge
        obtain ⟨f', rfl⟩ : ∃ f', f = f' + 1 := ⟨f - 1, by omega⟩
        have w8 : IntKind.i64.wrap ((leaf : Int) + 1) = ((leaf + 1 : Nat) : Int) := by rw [IntWalk.i64_in _ (by omega)]; omega
        have hL0 := hL.out
        rw [leafF] at hL0
        obtain ⟨v, hv⟩ : ∃ v, chN (leaf + 1) (j + 1) = v := ⟨_, rfl⟩
        rw [hv] at hL0
        have HC : Hid (∀ w, Calls Tryd.prog 85 #[.int .i64 ((leaf + 1 : Nat) : Int), .int .i64 ((j : Int) + 1)] w fun e w' => e = .returned (.int .i64 (v : Int)) ∧ w = w') := Lib.hid (fun w => by
          have := chooseB_any (leaf + 1) (j + 1) w (by omega) (by omega) v hv
          rwa [e0] at this)
        by_cases hvm : v ≤ m
        · rw [if_pos hvm] at hL0
          have HL2 := Lib.hid hL0
          have q2 : (v : Int) ≤ (m : Int) := by omega
          clear hL0 hL
          go_wp2_with fail
          refine (HC.out _).mono ?_
          rintro e w3 ⟨rfl, rfl⟩
          go_wp2_with fail
          exact ⟨⟨leaf + 1, f', by go_num, by omega, HL2, by simp⟩, by simp [intOf]; omega⟩
        · rw [if_neg hvm] at hL0
          have q2 : ¬ (v : Int) ≤ (m : Int) := by omega
          have hrest : restT (j + 1) m = v - 1 - m := by rw [restT, ← hL0, hv]
          rw [hrest] at HKN
          obtain ⟨r, hr⟩ : ∃ r, v - 1 - m = r := ⟨_, rfl⟩
          rw [hr] at HKN hrest
          have hvb : v ≤ 1000 := by
            rw [← hv, chN]
            split
            · omega
            · exact (chI_bound (leaf + 1) (by omega) (j + 1) (by omega)).2
          have w7 : IntKind.i64.wrap ((v : Int) - 1) = (v : Int) - 1 := IntWalk.i64_in _ (by omega)
          have w6 : IntKind.i64.wrap ((v : Int) - 1 - (m : Int)) = (r : Int) := by rw [IntWalk.i64_in _ (by omega)]; omega
          have q3 : (j : Int) < (size : Int) := by omega
          have hj : j < size := by omega
          obtain ⟨c1, f1⟩ := hR.out.gen.cell j 0 hj
          have HE2 : Hid (nthL j r ++ (R.set j (leaf : Int)).drop j = nthL size num) := Lib.hid (by
            rw [← hE.out, nthL, hrest, ← hL0]
            have hRl := hR.out.len
            rw [List.append_assoc]
            congr 1
            apply List.ext_getElem?
            intro i
            cases i with
            | zero => simp [hRl, hj]
            | succ i => simp [List.getElem?_drop, show j ≠ j + (i + 1) by omega]; congr 1; omega)
          have HR2 := Lib.hid (hR.out.set j (leaf : Int) hj)
          have hb2 := hb.setCell (p := ⟨w.heap.size, j, none⟩) (Nat.le_refl _) (.int .i64 (leaf : Int))
          clear hL0 hL hE hR hb hv hr hrest hvb lm
          go_wp2_with fail
          refine (HC.out _).mono ?_
          rintro e w3 ⟨rfl, rfl⟩
          go_wp2_with fail
          refine (HC.out _).mono ?_
          rintro e w3 ⟨rfl, rfl⟩
          go_wp2_with fail
          exact ⟨⟨j, r, _, by omega, rfl, rfl, HKN, HE2, HR2, hb2⟩, by simp [intOf]⟩
theorem Nth_ok (n k num : Nat) (w : World) (h1 : 1 ≤ n) (h7 : n ≤ 7) (hk : k ≤ n) (hm : num < chN n k) : Calls Tryd.prog 40 #[.int .i64 (n : Int), .int .i64 (k : Int), .int .i64 (num : Int)] w fun e w' => ∃ a, e = .returned (.tuple #[.slice a k k, .int .i64 0]) ∧ OwnL w' 3 w.heap.size a k k (nthL k num) ∧ Below w.heap.size w w' := by
  have H1 := Lib.hid (fun w => sized_ok n k w h1 (by omega) hk)
  obtain ⟨v, hv⟩ : ∃ v, chN n k = v := ⟨_, rfl⟩
  have H2 := Lib.hid (fun w => chooseB_any n k w (by omega) (by omega) v hv)
  have H4 := Lib.hid (fun w => nth_any k num w (by omega) (okN_all n (by omega) k hk num hm))
  have hvb : v ≤ 1000 := by rw [← hv, chN]; split; omega; exact (chI_bound n (by omega) k hk).2
  rw [hv] at hm
  have H3 := Lib.hid (fun w => bwithin_yes (num : Int) 0 ((v : Int) - 1) w (by omega) (by omega))
  have w7 : IntKind.i64.wrap ((v : Int) - 1) = (v : Int) - 1 := IntWalk.i64_in _ (by omega)
  clear hv
  go_enter Tryd.func40, Tryd.ntmps40
  go_wp2_with fail
  refine (H1.out _).mono ?_
  rintro e w1 ⟨rfl, rfl⟩
  go_wp2_with fail
  refine (H2.out _).mono ?_
  rintro e w1 ⟨rfl, rfl⟩
  go_wp2_with fail
  refine (H3.out _).mono ?_
  rintro e w1 ⟨rfl, rfl⟩
  go_wp2_with fail
  refine (H4.out _).mono ?_
  rintro e w1 ⟨a, rfl, o1, b1⟩
  go_wp2_with fail
  go_ret2
  exact ⟨a, rfl, o1, b1⟩
end Go.Proofs.YtpfaoagddgcmbaaDoor
