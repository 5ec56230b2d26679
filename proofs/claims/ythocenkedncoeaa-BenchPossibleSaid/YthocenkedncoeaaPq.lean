/- Plain facts of chapter 06: the map of BenchPossible, and the smallest common number. -/
import Derived.Test.YthocenkedncoeaaPo
namespace Bench06
set_option maxRecDepth 100000
def padP (l : List Int) : List Int := l ++ List.replicate (6 - l.length) 0
def metF (n : Nat) : Nat → List Int → Option Int
  | 0, _ => none
  | k + 1, y => if y = padP (ordL n (k + 1)) then some ((k : Int) + 1) else metF n k y
def newB (n : Nat) : Bool := (List.range (lcmTo n)).all fun k => metF n k (padP (ordL n (k + 1))) == none
theorem new_all : ∀ n, n < 7 → 1 ≤ n → newB n = true := by decide +kernel
theorem met_new {n k : Nat} (hn : n < 7) (h1 : 1 ≤ n) (hk : k < lcmTo n) : metF n k (padP (ordL n (k + 1))) = none := by
  have := List.all_eq_true.1 (new_all n hn h1) k (List.mem_range.2 hk)
  simpa using this
def metB (n : Nat) : Bool := (allP n).all fun l => metF n (lcmTo n) (padP l) == (if (countL l).2 = 0 then some (countL l).1 else none)
theorem met_all : ∀ n, n < 7 → 1 ≤ n → metB n = true := by decide +kernel
theorem met_leaf {n : Nat} {l : List Int} (hn : n < 7) (h1 : 1 ≤ n) (hl : l ∈ allP n) : metF n (lcmTo n) (padP l) = if (countL l).2 = 0 then some (countL l).1 else none := by
  have := List.all_eq_true.1 (met_all n hn h1) l hl
  simpa using this
/-- all numbers from 2 to j - 1 divide it -/
def cmB (out : Nat) (j : Nat) : Bool := (List.range j).all fun m => decide (m < 2) || decide (out % m = 0)
theorem cmB_succ (out j : Nat) (h : 2 ≤ j) : cmB out (j + 1) = (cmB out j && decide (out % j = 0)) := by
  unfold cmB; rw [List.range_succ, List.all_append]; simp [show ¬ j < 2 by omega]
theorem cm_all : ∀ n, n < 7 → 1 ≤ n → cmB (lcmTo n) (n + 1) = true ∧ (List.range (lcmTo n)).all (fun x => decide (x = 0) || !cmB x (n + 1)) = true := by decide +kernel
theorem cm_less {n x : Nat} (hn : n < 7) (h1 : 1 ≤ n) (hx : x < lcmTo n) (h0 : 1 ≤ x) : cmB x (n + 1) = false := by
  have := List.all_eq_true.1 (cm_all n hn h1).2 x (List.mem_range.2 hx)
  simpa [show x ≠ 0 by omega] using this
end Bench06
