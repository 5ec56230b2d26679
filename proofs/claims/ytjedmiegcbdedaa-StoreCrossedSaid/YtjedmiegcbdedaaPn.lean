/- Plain facts of chapter 11: crossings of all divisions. -/
import Derived.Test.YtjedmiegcbdedaaPk
import Derived.Test.YtjedmiegcbdedaaPm
namespace Store11
set_option maxRecDepth 100000
def codeX (l : List Int) : Nat := (cnX l).1.toNat * 16 + (cnX l).2.toNat
def crossB (l : List Int) : Bool := chkL l == 0 && decide (cnL l = cnX l) && decide (0 ≤ (cnX l).1 ∧ (cnX l).1 < 16) && decide (0 ≤ (cnX l).2 ∧ (cnX l).2 < 16)
theorem cross_all : ∀ n, n < 8 → 1 ≤ n → ((allL n).all crossB) = true := by decide +kernel
def symB (X : List Nat) : Bool := (List.range 16).all fun c => (List.range c).all fun d => X.countP (fun q => q == 16 * c + d) == X.countP (fun q => q == 16 * d + c)
theorem cross_sym : ∀ n, n < 8 → 1 ≤ n → symB ((allL n).map codeX) = true := by decide +kernel
theorem cross_flat : ∀ n, n < 8 → 1 ≤ n → (((allL n).countP fun l => decide ((cnX l).1 = 0) : Nat) : Int) = flatV n ∧ countE n = 0 ∧ (allL n).length < 1000 := by decide +kernel
end Store11
