/- Plain functions of chapter 06: the count of an order. -/
import Derived.Test.YtpfaoagddgcmbaaDoorSpec
namespace Bench06

/-- the inner loop of Count -/
def innerG (m : Nat) (want : Int) (step : Nat) : Nat → Nat → Nat
  | 0, k => k
  | f + 1, k => if ((k % m : Nat) : Int) = want then k else innerG m want step f (k + step)
/-- the outer loop of Count, from m rollers down -/
def outG (r : List Int) (n : Nat) : Nat → Nat → Nat → Nat × Nat
  | 0, k, step => (k, step)
  | m + 1, k, step =>
    if (m + 1) / Nat.gcd step (m + 1) = 1 then outG r n m k step
    else outG r n m (innerG (m + 1) (r.getD (n - (m + 1)) 0) step ((m + 1) / Nat.gcd step (m + 1)) k) (step * ((m + 1) / Nat.gcd step (m + 1)))
/-- the last loop of Count: do all remainders agree? -/
def agreeG (r : List Int) (n k : Nat) : Bool := (List.range n).all fun i => decide (((k % (i + 1) : Nat) : Int) = r.getD (n - (i + 1)) 0)
def countL (l : List Int) : Int × Int :=
  let p := outG (remL l) l.length l.length 0 1
  if agreeG (remL l) l.length p.1 then (if p.1 = 0 then (p.2 : Int) else (p.1 : Int), 0) else (0, 12)
theorem agree_yes (r : List Int) (n k : Nat) (h : ∀ i, i + 1 < n + 1 → ((k % (i + 1) : Nat) : Int) = r.getD (n - (i + 1)) 0) : agreeG r n k = true := by
  simp only [agreeG, List.all_eq_true, List.mem_range, decide_eq_true_eq]
  exact fun i hi => h i (by omega)
theorem agree_no (r : List Int) (n k j : Nat) (h1 : 1 ≤ j) (h2 : j ≤ n) (h : ((k % j : Nat) : Int) ≠ r.getD (n - j) 0) : agreeG r n k = false := by
  cases hc : agreeG r n k with
  | false => rfl
  | true =>
    simp only [agreeG, List.all_eq_true, List.mem_range, decide_eq_true_eq] at hc
    have := hc (j - 1) (by omega)
    rw [show j - 1 + 1 = j by omega] at this
    exact absurd this h
theorem countL_no (l : List Int) (k st : Nat) (h : outG (remL l) l.length l.length 0 1 = (k, st)) (ha : agreeG (remL l) l.length k = false) : countL l = (0, 12) := by
  simp only [countL, h, ha]; rfl
theorem countL_yes (l : List Int) (k st : Nat) (h : outG (remL l) l.length l.length 0 1 = (k, st)) (ha : agreeG (remL l) l.length k = true) : countL l = (if k = 0 then (st : Int) else (k : Int), 0) := by
  simp only [countL, h, ha]; rfl
theorem mul_step (y i st : Nat) (h : i < y) : (y - i) * st = (y - (i + 1)) * st + st := by
  rw [show y - i = (y - (i + 1)) + 1 by omega, Nat.add_mul, Nat.one_mul]
theorem innerG_stop (m : Nat) (want : Int) (step f k : Nat) (h : ((k % m : Nat) : Int) = want) : innerG m want step f k = k := by
  cases f <;> simp [innerG, h]
theorem innerG_next (m : Nat) (want : Int) (step y i k : Nat) (hi : i < y) (h : ((k % m : Nat) : Int) ≠ want) : innerG m want step (y - i) k = innerG m want step (y - (i + 1)) (k + step) := by
  rw [show y - i = (y - (i + 1)) + 1 by omega, innerG, if_neg h]
theorem lcmTo_dvd (n m : Nat) (hn : n ≤ 20) (hm : m ≤ n) (h : 0 < m) : m ∣ lcmTo n := by
  have key : ∀ n : Fin 21, ∀ m : Fin 21, m.1 ≤ n.1 → 0 < m.1 → lcmTo n % m.1 = 0 := by decide +kernel
  exact Nat.dvd_of_mod_eq_zero (key ⟨n, by omega⟩ ⟨m, by omega⟩ hm h)
theorem step_dvd (st m L : Nat) (h1 : st ∣ L) (h2 : m ∣ L) : st * (m / Nat.gcd st m) ∣ L := by
  rw [← Nat.mul_div_assoc _ (Nat.gcd_dvd_right st m)]
  exact Nat.lcm_dvd h1 h2
/-- the smallest count that a question accepts: k have been tried, f are left -/
def tryG (p : Nat → Bool) : Nat → Nat → Int × Int
  | 0, _ => (0, 12)
  | f + 1, k => if p (k + 1) then ((k : Int) + 1, 0) else tryG p f (k + 1)
def tryL (p : Nat → Bool) : Int × Int := tryG p 1000 0
def smallP (r n : Int) (k : Nat) : Bool := lastTo k (r.toNat - 1) == n
/-- do those of home go first? -/
def firstG (home : List Int) (c : Nat) : Nat → List Int → Bool
  | 0, _ => true
  | f + 1, b => if b.getD ((c - 1) % b.length) 0 ∈ home then firstG home c f (rotL b ((c - 1) % b.length)) else false
def firstP (r : Int) (home : List Int) (k : Nat) : Bool := firstG home k home.length (rng r.toNat)
/-- the error of those who go first -/
def homeG (r : Int) : Int → List Int → Int
  | _, [] => 0
  | before, x :: xs => if ¬ (0 ≤ x ∧ x ≤ r - 1) then 2 else if x ≤ before then 7 else homeG r x xs
def homeL (r : Int) (home : List Int) : Int := homeG r (-1) home
theorem homeG_len (r : Int) : ∀ (xs : List Int) (b : Int), b < r → homeG r b xs = 0 → b + xs.length < r
  | [], b, hb, _ => by simpa using hb
  | x :: xs, b, hb, h => by
    simp only [homeG] at h
    by_cases h1 : 0 ≤ x ∧ x ≤ r - 1
    · rw [if_neg (by simpa using h1)] at h
      by_cases h2 : x ≤ b
      · rw [if_pos h2] at h; omega
      · rw [if_neg h2] at h
        have := homeG_len r xs x (by omega) h
        simp only [List.length_cons]; omega
    · rw [if_pos h1] at h; omega
end Bench06
