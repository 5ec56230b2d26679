/- Plain functions of flat divisions, counted. -/
import Derived.Test.YtjedmiegcbdedaaPc
namespace Store11
def sumK (F : List Int) (n : Nat) : Nat → Int
  | 0 => 0
  | k + 1 => sumK F n k + F.getD k 0 * F.getD (n - 1 - k) 0
def flatK : Nat → List Int
  | 0 => [1]
  | n + 1 => flatK n ++ [sumK (flatK n) (n + 1) (n + 1)]
def flatV (n : Int) : Int := if 1 ≤ n ∧ n ≤ 9 then (flatK n.toNat).getD n.toNat 0 else 0
theorem flatK_len : ∀ n, (flatK n).length = n + 1
  | 0 => rfl
  | n + 1 => by rw [flatK, List.length_append, flatK_len n]; rfl
theorem flatK_small : ∀ m, m < 10 → ∀ k, k < 11 → 0 ≤ (flatK m).getD k 0 ∧ (flatK m).getD k 0 ≤ 10000 := by decide +kernel
theorem sumK_small : ∀ m, m < 9 → ∀ k, k < 11 → 0 ≤ sumK (flatK m) (m + 1) k ∧ sumK (flatK m) (m + 1) k ≤ 100000 := by decide +kernel
end Store11
