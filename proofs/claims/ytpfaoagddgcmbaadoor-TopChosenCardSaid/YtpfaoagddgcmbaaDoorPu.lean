/- Plain laws of chapter 06: one by one from a list, and the smallest of all. -/
import Derived.Test.YtpfaoagddgcmbaaDoorPt
namespace Bench06

/-- the list from the place at on, once around -/
def rotA (l : List Int) (at_ : Nat) : List Int := l.drop at_ ++ l.take at_
theorem rotA_zero (l : List Int) : rotA l 0 = l := by simp [rotA]
theorem rotA_length (l : List Int) (a : Nat) : (rotA l a).length = l.length := by simp [rotA]; omega
theorem rotA_getD (l : List Int) (a q : Nat) (ha : a ≤ l.length) (hq : q < l.length) : (rotA l a).getD q 0 = l.getD ((a + q) % l.length) 0 := by
  unfold rotA
  by_cases h : a + q < l.length
  · rw [Nat.mod_eq_of_lt h, getD_append_left _ _ _ (by simp; omega), getD_drop]
  · have e : (a + q) % l.length = a + q - l.length := by
      rw [Nat.mod_eq_sub_mod (by omega), Nat.mod_eq_of_lt (by omega)]
    rw [e, getD_append_right _ _ _ (by simp; omega), getD_take _ _ _ (by simp; omega)]
    congr 1; simp; omega
theorem list_ext_getD (a b : List Int) (h : a.length = b.length) (he : ∀ i, i < a.length → a.getD i 0 = b.getD i 0) : a = b := by
  apply List.ext_getElem h
  intro i h1 h2
  have := he i h1
  simpa [List.getD, h1, h2] using this
theorem eraseIdx_getD (l : List Int) (k i : Nat) : (l.eraseIdx k).getD i 0 = if i < k then l.getD i 0 else l.getD (i + 1) 0 := by
  simp only [List.getD, List.getElem?_eraseIdx]; split <;> rfl
theorem rotA_erase (l : List Int) (a q : Nat) (ha : a ≤ l.length) (hq : q < l.length) : rotL (rotA l a) q = rotA (l.eraseIdx ((a + q) % l.length)) ((a + q) % l.length) := by
  have hm := Nat.mod_lt (a + q) (show 0 < l.length by omega)
  have hmod : (a + q < l.length ∧ (a + q) % l.length = a + q) ∨ (l.length ≤ a + q ∧ (a + q) % l.length = a + q - l.length) := by
    by_cases h : a + q < l.length
    · exact .inl ⟨h, Nat.mod_eq_of_lt h⟩
    · exact .inr ⟨by omega, by rw [Nat.mod_eq_sub_mod (by omega), Nat.mod_eq_of_lt (by omega)]⟩
  have hle : (l.eraseIdx ((a + q) % l.length)).length = l.length - 1 := by rw [List.length_eraseIdx_of_lt hm]
  have e1 := rotL_length (rotA l a) q (by rw [rotA_length]; exact hq)
  rw [rotA_length] at e1
  refine list_ext_getD _ _ (by rw [e1, rotA_length, hle]) fun i hi => ?_
  rw [e1] at hi
  rw [rotL_getD _ _ _ (by rw [rotA_length]; exact hq) (by rw [rotA_length]; exact hi), rotA_length]
  generalize hat : (a + q) % l.length = t at *
  rw [show i + q + 1 = q + 1 + i by omega]
  have h2 := Nat.mod_lt (q + 1 + i) (show 0 < l.length by omega)
  rw [rotA_getD l a _ ha h2, rotA_getD _ t i (by omega) (by omega), hle, eraseIdx_getD]
  have e2 : (a + (q + 1 + i) % l.length) % l.length = (t + 1 + i) % l.length := by
    rw [Nat.add_mod_mod, ← hat, show a + (q + 1 + i) = (a + q) + (1 + i) by omega, Nat.add_mod (a + q), show (a + q) % l.length + 1 + i = (a + q) % l.length + (1 + i) by omega, Nat.add_mod ((a + q) % l.length) (1 + i), Nat.mod_mod]
  rw [e2]
  by_cases h3 : t + i < l.length - 1
  · rw [Nat.mod_eq_of_lt h3, if_neg (by omega), Nat.mod_eq_of_lt (by omega)]; congr 1; omega
  · have e3 : (t + i) % (l.length - 1) = t + i - (l.length - 1) := by
      by_cases h0 : l.length - 1 = 0
      · omega
      · rw [Nat.mod_eq_sub_mod (by omega), Nat.mod_eq_of_lt (by omega)]
    have e4 : (t + 1 + i) % l.length = t + 1 + i - l.length := by rw [Nat.mod_eq_sub_mod (by omega), Nat.mod_eq_of_lt (by omega)]
    rw [e3, e4, if_pos (by omega)]; congr 1; omega
/-- one is counted out -/
theorem seat_step (k m a : Nat) (l out : List Int) (hl : l.length = m) (hm : 0 < m) (hk : 1 ≤ k) (ha : a ≤ m) :
    out ++ ordG k m (rotA l a) = (out ++ [l.getD ((a + (k - 1)) % m) 0]) ++ ordG k (m - 1) (rotA (l.eraseIdx ((a + (k - 1)) % m)) ((a + (k - 1)) % m)) := by
  obtain ⟨f, rfl⟩ : ∃ f, m = f + 1 := ⟨m - 1, by omega⟩
  have h1 := Nat.mod_lt (k - 1) hm
  have e : (a + (k - 1) % (f + 1)) % (f + 1) = (a + (k - 1)) % (f + 1) := by rw [Nat.add_mod_mod]
  rw [ordG, rotA_length, hl, rotA_erase l a _ (by omega) (by omega), rotA_getD l a _ (by omega) (by omega), hl, e]
  simp

/-- the first number from 1 to K that answers, or 0 -/
def fnd (p : Nat → Bool) : Nat → Nat
  | 0 => 0
  | K + 1 => if fnd p K = 0 then (if p (K + 1) then K + 1 else 0) else fnd p K
theorem fnd_le (p : Nat → Bool) : ∀ K, fnd p K ≤ K
  | 0 => Nat.le_refl _
  | K + 1 => by simp only [fnd]; have := fnd_le p K; split <;> (try split) <;> omega
theorem fnd_stay (p : Nat → Bool) (K : Nat) (h : fnd p K ≠ 0) : ∀ d, fnd p (K + d) = fnd p K
  | 0 => rfl
  | d + 1 => by
    have ih := fnd_stay p K h d
    rw [← Nat.add_assoc, fnd, ih, if_neg h]
theorem fnd_hit (p : Nat → Bool) (K : Nat) (h : fnd p K = 0) (hp : p (K + 1) = true) : fnd p (K + 1) = K + 1 := by rw [fnd, if_pos h, if_pos hp]
theorem fnd_miss (p : Nat → Bool) (K : Nat) (h : fnd p K = 0) (hp : p (K + 1) = false) : fnd p (K + 1) = 0 := by rw [fnd, if_pos h, hp]; rfl
theorem fnd_keep (p : Nat → Bool) (K : Nat) (h : fnd p K ≠ 0) : fnd p (K + 1) = fnd p K := by rw [fnd, if_neg h]
theorem fnd_end (p : Nat → Bool) (K x : Nat) (hK : K ≤ 1000) (h : fnd p K = x) (hx : x ≠ 0 ∨ K = 1000) : fnd p 1000 = x := by
  rcases hx with hx | rfl
  · have := fnd_stay p K (by omega) (1000 - K)
    rw [show K + (1000 - K) = 1000 by omega] at this
    omega
  · exact h
theorem tryG_fnd (p : Nat → Bool) : ∀ (f k : Nat), fnd p k = 0 → tryG p f k = if fnd p (k + f) = 0 then (0, 12) else ((fnd p (k + f) : Int), 0)
  | 0, k, h => by simp [tryG, h]
  | f + 1, k, h => by
    rw [tryG]
    by_cases hp : p (k + 1) = true
    · have e : fnd p (k + 1) = k + 1 := by rw [fnd, if_pos h, if_pos hp]
      have e2 := fnd_stay p (k + 1) (by omega) f
      rw [if_pos hp, show k + (f + 1) = k + 1 + f by omega, e2, e, if_neg (by omega)]
      simp
    · have e : fnd p (k + 1) = 0 := by rw [fnd, if_pos h, if_neg hp]
      rw [if_neg hp, tryG_fnd p f (k + 1) e, show k + (f + 1) = k + 1 + f by omega]
theorem tryL_fnd (p : Nat → Bool) : tryL p = if fnd p 1000 = 0 then (0, 12) else ((fnd p 1000 : Int), 0) := by
  rw [tryL, tryG_fnd p 1000 0 rfl]

theorem ordG_take (c : Nat) : ∀ (f h : Nat) (b : List Int), h ≤ f → (ordG c f b).take h = ordG c h b
  | _, 0, _, _ => by simp [ordG]
  | 0, h + 1, _, hh => by omega
  | f + 1, h + 1, b, hh => by rw [ordG, ordG, List.take_succ_cons, ordG_take c f h _ (by omega)]
theorem firstG_all (home : List Int) (c : Nat) : ∀ (f : Nat) (b : List Int), firstG home c f b = (ordG c f b).all fun x => decide (x ∈ home)
  | 0, _ => rfl
  | f + 1, b => by
    rw [firstG, ordG, List.all_cons, firstG_all home c f]
    split <;> rename_i h
    · rw [decide_eq_true h, Bool.true_and]
    · rw [decide_eq_false h, Bool.false_and]
theorem firstP_all (n k : Nat) (home : List Int) (h : home.length ≤ n) : firstP n home k = ((ordL n k).take home.length).all fun x => decide (x ∈ home) := by
  rw [ordL, ordG_take k n _ _ h, firstP, firstG_all]; simp
theorem smallP_last (n k : Nat) (r : Int) (hn : 1 ≤ n) (hk : 1 ≤ k) : smallP n r k = ((ordL n k).getD (n - 1) 0 == r) := by
  rw [smallP, ← last_eq n k hk hn]; simp

/-- those whose bits are set -/
def homeB (s n : Nat) : List Int := ((List.range n).filter fun x => s.testBit x).map Int.ofNat
theorem homeB_succ (s n : Nat) : homeB s (n + 1) = homeB s n ++ if s.testBit n then [(n : Int)] else [] := by
  simp only [homeB, List.range_succ, List.filter_append, List.map_append]
  congr 1
  by_cases h : s.testBit n <;> simp [h]
theorem homeB_len (s n : Nat) : (homeB s n).length ≤ n := by
  simp only [homeB, List.length_map]
  exact Nat.le_trans (List.length_filter_le _ _) (by simp)
theorem homeG_zero (r : Int) : ∀ (xs : List Int) (b : Int), (∀ x ∈ xs, 0 ≤ x ∧ x ≤ r - 1) → (∀ x ∈ xs, b < x) → xs.Pairwise (· < ·) → homeG r b xs = 0
  | [], _, _, _, _ => rfl
  | x :: xs, b, h1, h2, h3 => by
    rw [List.pairwise_cons] at h3
    have := h2 x (by simp)
    rw [homeG, if_neg (by have := h1 x (by simp); simpa using this), if_neg (by omega)]
    exact homeG_zero r xs x (fun y hy => h1 y (by simp [hy])) (fun y hy => h3.1 y hy) h3.2
theorem homeB_ok (s n : Nat) : homeL n (homeB s n) = 0 := by
  have hm : ∀ x ∈ homeB s n, 0 ≤ x ∧ x ≤ (n : Int) - 1 := by
    intro x hx
    simp only [homeB, List.mem_map, List.mem_filter, List.mem_range] at hx
    obtain ⟨a, ⟨ha, _⟩, rfl⟩ := hx
    simp; omega
  refine homeG_zero _ _ _ hm (fun x hx => by have := hm x hx; omega) ?_
  rw [homeB, List.pairwise_map]
  exact (List.pairwise_lt_range.sublist List.filter_sublist).imp fun h => by simpa using h
theorem getD_cast (l : List Int) (m : Nat) : ∀ x : Int, x = m → l.getD x.toNat 0 = l.getD m 0 := by rintro x rfl; simp
end Bench06
