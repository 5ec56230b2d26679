/- Plain laws of StoreRows. -/
import Derived.Test.YtjedmiegcbdedaaPe
namespace Store11
theorem into_step : ∀ n : Nat, n < 8 → ∀ k : Nat, k < n + 2 → intoV ((n : Int) + 2) ((k : Int) + 1) = intoV ((n : Int) + 1) (k : Int) + ((k : Int) + 1) * intoV ((n : Int) + 1) ((k : Int) + 1) := by decide +kernel
theorem into_small : ∀ n : Nat, n < 10 → ∀ k : Nat, k < 11 → 0 ≤ intoV (n : Int) (k : Int) ∧ intoV (n : Int) (k : Int) ≤ 100000 := by decide +kernel
/-- the sum of the first ones -/
def sumI (n : Nat) : Nat → Int
  | 0 => 0
  | i + 1 => sumI n i + intoV (n : Int) ((i : Int) + 1)
theorem sumI_small : ∀ n : Nat, n < 10 → ∀ i : Nat, i < 10 → 0 ≤ sumI n i ∧ sumI n i ≤ 100000 := by decide +kernel
theorem sumI_count : ∀ n : Nat, n < 8 → countV ((n : Int) + 2) = sumI (n + 2) (n + 2) := by decide +kernel
theorem flatV_step (i : Nat) (h : i < 9) : flatV ((i : Int) + 1) = sumK (flatK i) (i + 1) (i + 1) := by
  unfold flatV
  rw [if_pos (by omega), show ((i : Int) + 1).toNat = i + 1 by omega, flatK, List.getD, List.getElem?_append_right (by rw [flatK_len]; exact Nat.le_refl _), flatK_len]
  simp
theorem flatK_step (i : Nat) (h : i < 9) : flatK i ++ [flatV ((i : Int) + 1)] = flatK (i + 1) := by rw [flatV_step i h]; rfl
theorem flatV_small : ∀ i : Nat, i < 9 → 0 ≤ flatV ((i : Int) + 1) ∧ flatV ((i : Int) + 1) ≤ 100000 := by decide +kernel
end Store11
