/- Plain laws of chapter 06: the bench turned; the count is found again. -/
import Derived.Test.YtpfaoagddgcmbaaDoorPm
namespace Bench06

theorem ordG_sub (c : Nat) : ∀ (f : Nat) (b : List Int), b.length = f → b.Nodup → (ordG c f b).Nodup ∧ ∀ x ∈ ordG c f b, x ∈ b
  | 0, b, _, _ => ⟨List.nodup_nil, fun x hx => by simp [ordG] at hx⟩
  | f + 1, b, hb, hn => by
    have hat : (c - 1) % b.length < b.length := Nat.mod_lt _ (by omega)
    obtain ⟨h1, h2⟩ := ordG_sub c f (rotL b ((c - 1) % b.length)) (by rw [rotL_length b _ hat]; omega) (rotL_nodup _ _ hn)
    rw [ordG]
    refine ⟨List.nodup_cons.2 ⟨fun h => ((mem_rotL_iff b _ hat hn _).1 (h2 _ h)).2 rfl, h1⟩, fun x hx => ?_⟩
    rcases List.mem_cons.1 hx with rfl | hx
    · simp [List.getD, hat]
    · exact ((mem_rotL_iff b _ hat hn x).1 (h2 x hx)).1
theorem ordL_nodup (n c : Nat) : (ordL n c).Nodup := (ordG_sub c n _ (rng_length n) (rng_nodup n)).1
theorem ordL_mem (n c : Nat) (x : Int) (h : x ∈ ordL n c) : x ∈ rng n := (ordG_sub c n _ (rng_length n) (rng_nodup n)).2 x h
theorem ordL_length (n c : Nat) : (ordL n c).length = n := ordG_length c n _

theorem checkG_zero (n : Int) : ∀ (xs pre : List Int), (∀ x ∈ xs, 0 ≤ x ∧ x ≤ n - 1) → xs.Nodup → (∀ x ∈ xs, x ∉ pre) → checkG n pre xs = 0
  | [], _, _, _, _ => rfl
  | x :: xs, pre, h1, h2, h3 => by
    rw [List.nodup_cons] at h2
    rw [checkG, if_neg (by have := h1 x (by simp); simpa using this), if_neg (h3 x (by simp))]
    refine checkG_zero n xs _ (fun y hy => h1 y (by simp [hy])) h2.2 fun y hy hp => ?_
    rcases List.mem_append.1 hp with hp | hp
    · exact h3 y (by simp [hy]) hp
    · simp at hp; exact h2.1 (hp ▸ hy)
theorem checkL_zero (l : List Int) (h0 : 1 ≤ l.length) (h1 : l.length ≤ 20) (h2 : l.Nodup) (h3 : ∀ x ∈ l, x ∈ rng l.length) : checkL l = 0 := by
  unfold checkL
  rw [if_pos ⟨h0, h1⟩]
  exact checkG_zero _ l [] (fun x hx => by have := (mem_rng _ x).1 (h3 x hx); omega) h2 (fun x _ => by simp)
theorem checkL_ord (n c : Nat) (h0 : 1 ≤ n) (h1 : n ≤ 20) : checkL (ordL n c) = 0 :=
  checkL_zero _ (by rw [ordL_length]; exact h0) (by rw [ordL_length]; exact h1) (ordL_nodup n c) (fun x hx => by rw [ordL_length]; exact ordL_mem n c x hx)

theorem remG_ord (c : Nat) (hc : 1 ≤ c) : ∀ (f : Nat) (b : List Int), b.length = f → b.Nodup → ∀ i, i < f → (remG b (ordG c f b)).getD i 0 = ((c % (f - i) : Nat) : Int)
  | 0, b, _, _, i, hi => by omega
  | f + 1, b, hb, hn, i, hi => by
    have hat : (c - 1) % b.length < b.length := Nat.mod_lt _ (by omega)
    rw [ordG, remG, idxI_nodup b _ hn hat, Int.toNat_natCast]
    cases i with
    | zero =>
      rw [List.getD_cons_zero, hb]
      have : ((c - 1) % (f + 1) + 1) % (f + 1) = c % (f + 1) := by
        rw [Nat.mod_add_mod]; congr 1; omega
      rw [Nat.sub_zero, ← this]; simp
    | succ i =>
      rw [List.getD_cons_succ, remG_ord c hc f _ (by rw [rotL_length b _ hat]; omega) (rotL_nodup _ _ hn) i (by omega)]
      rw [show f + 1 - (i + 1) = f - i by omega]
theorem remL_ord (n c : Nat) (hc : 1 ≤ c) (i : Nat) (hi : i < n) : (remL (ordL n c)).getD i 0 = ((c % (n - i) : Nat) : Int) := by
  rw [remL, ordL_length]; exact remG_ord c hc n _ (rng_length n) (rng_nodup n) i hi

theorem countL_ord (n k : Nat) (h1 : 1 ≤ k) (h2 : k ≤ lcmTo n) : countL (ordL n k) = ((k : Int), 0) := by
  have hR : ∀ m, 1 ≤ m → m ≤ n → (remL (ordL n k)).getD ((ordL n k).length - m) 0 = ((k % m : Nat) : Int) := fun m hm hmn => by
    rw [ordL_length, remL_ord n k h1 _ (by omega)]; congr 2; omega
  refine (countL_count (ordL n k)).unique (.inl ⟨k, ⟨h1, fun m hm hmn => ?_, fun x hx hl => ?_⟩, rfl⟩)
  · rw [ordL_length] at hmn; exact (hR m hm hmn).symm
  · refine Nat.le_of_not_lt fun hlt => ?_
    have hk : Leaves (fun j => (remL (ordL n k)).getD ((ordL n k).length - j) 0) (ordL n k).length k := fun m hm hmn => by
      rw [ordL_length] at hmn; exact (hR m hm hmn).symm
    have := hl.diff hk (by omega)
    rw [ordL_length] at this
    have := Nat.le_of_dvd (by omega) this
    omega

theorem ordG_congr (c c' : Nat) : ∀ (f : Nat) (b : List Int), b.length = f → (∀ j, 1 ≤ j → j ≤ f → (c - 1) % j = (c' - 1) % j) → ordG c f b = ordG c' f b
  | 0, _, _, _ => rfl
  | f + 1, b, hb, h => by
    have hat : (c - 1) % b.length < b.length := Nat.mod_lt _ (by omega)
    have e := h (f + 1) (by omega) (Nat.le_refl _)
    rw [ordG, ordG, hb, ← e, ← hb, ordG_congr c c' f _ (by rw [rotL_length b _ hat]; omega) (fun j h1 h2 => h j h1 (by omega))]
theorem ordL_period (n k t : Nat) (hk : 1 ≤ k) : ordL n (k + t * lcmTo n) = ordL n k := by
  refine ordG_congr _ _ n _ (rng_length n) fun j h1 h2 => ?_
  refine mod_eq_of_dvd_sub (by omega) ?_
  rw [show k + t * lcmTo n - 1 - (k - 1) = t * lcmTo n by omega]
  exact Nat.dvd_trans (dvd_lcmTo n j h1 h2) (Nat.dvd_mul_left _ _)

theorem emod_neg (a M : Int) (hM : 0 < M) : (-a - 1) % M = M - 1 - a % M := by
  have e := Int.mul_ediv_add_emod a M
  have b0 := Int.emod_nonneg a (show M ≠ 0 by omega)
  have b1 := Int.emod_lt_of_pos a hM
  have : -a - 1 = (M - 1 - a % M) + M * (-(a / M) - 1) := by rw [Int.mul_sub, Int.mul_neg]; omega
  rw [this, Int.add_mul_emod_self_left, Int.emod_eq_of_lt (by omega) (by omega)]

theorem whoG_turned (k c' : Int) (m : Nat) (hm : 0 < m) : ∀ (p : Nat), (∀ j : Nat, 1 ≤ j → j ≤ m + p → ∃ q : Int, c' = 1 - k + (j : Int) * q) → whoG c' m p = (m : Int) + p - 1 - whoG k m p
  | 0, h => by
    obtain ⟨q, hq⟩ := h m hm (by omega)
    simp only [whoG]
    have : c' - 1 = (-(k - 1) - 1) + (m : Int) * q := by omega
    rw [this, Int.add_mul_emod_self_left, emod_neg _ _ (by omega)]; omega
  | p + 1, h => by
    have ih := whoG_turned k c' m hm p (fun j h1 h2 => h j h1 (by omega))
    obtain ⟨q, hq⟩ := h (m + p + 1) (by omega) (by omega)
    simp only [whoG]
    rw [ih]
    have hM : ((m + p + 1 : Nat) : Int) = (m : Int) + p + 1 := by omega
    rw [hM] at hq
    have : (m : Int) + p - 1 - whoG k m p + c' = (-(whoG k m p + k) - 1) + ((m : Int) + p + 1) * (q + 1) := by
      rw [Int.mul_add]; omega
    rw [this, Int.add_mul_emod_self_left, emod_neg _ _ (by omega)]; omega
theorem ordL_turned (n k : Nat) (h1 : 1 ≤ k) (h2 : k ≤ lcmTo n) (i : Nat) (hi : i < n) : (ordL n (lcmTo n + 1 - k)).getD i 0 = (n : Int) - 1 - (ordL n k).getD i 0 := by
  rw [← who_eq n (lcmTo n + 1 - k) i (by omega) hi, ← who_eq n k i h1 hi, whoG_turned (k : Int) _ (n - i) (by omega) i (fun j hj1 hj2 => ?_)]
  · omega
  · obtain ⟨q, hq⟩ := dvd_lcmTo n j hj1 (by omega)
    refine ⟨q, ?_⟩
    have : (lcmTo n : Int) = (j : Int) * (q : Int) := by rw [hq]; simp
    omega
theorem ordL_one : ∀ n : Nat, n ≤ 19 → ordL n 1 = rng n := by
  have h : ∀ n : Fin 20, ordL n 1 = rng n := by decide +kernel
  intro n hn; exact h ⟨n, by omega⟩
theorem last_two : ∀ n : Nat, 1 ≤ n → n ≤ 19 → lastTo 2 (n - 1) = 2 * ((n : Int) - 2 ^ Nat.log2 n) ∧ Nat.log2 n ≤ 4 := by
  have h : ∀ n : Fin 20, 1 ≤ n.1 → lastTo 2 (n.1 - 1) = 2 * ((n.1 : Int) - 2 ^ Nat.log2 n.1) ∧ Nat.log2 n.1 ≤ 4 := by decide +kernel
  intro n h1 hn; exact h ⟨n, by omega⟩ h1
end Bench06
