/- Plain laws of the division with a number. -/
import Derived.Test.YtjedmiegcbdedaaPg
namespace Store11
theorem endN_rec : ∀ m : Nat, m < 9 → ∀ k : Nat, k < 9 → k + m < 9 → endN k (m + 1) = (k : Int) * endN k m + endN (k + 1) m := by decide +kernel
theorem endN_zero : ∀ n : Nat, n < 10 → endN 0 n = countN n := by decide +kernel
theorem min_room {num each : Int} {k ρ : Nat} (he : 0 < each) (hρ : ρ ≤ k) (h1 : (ρ : Int) * each ≤ num) (h2 : ρ < k → num < (ρ : Int) * each + each) : min (num / each) (k : Int) = ρ := by
  have h3 : (ρ : Int) ≤ num / each := (Int.le_ediv_iff_mul_le he).2 h1
  rcases Nat.lt_or_ge ρ k with h | h
  · have h4 : num / each < (ρ : Int) + 1 := (Int.ediv_lt_iff_lt_mul he).2 (by rw [Int.add_mul, Int.one_mul]; exact h2 h)
    omega
  · omega
end Store11
