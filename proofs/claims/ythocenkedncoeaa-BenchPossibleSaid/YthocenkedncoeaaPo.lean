/- Plain facts of chapter 06: all orders are tried. -/
import Derived.Test.YthocenkedncoeaaPt
namespace Bench06
set_option maxRecDepth 100000
/-- all orders behind these rollers -/
def goP (n : Nat) : Nat → List Int → List (List Int)
  | 0, pre => [pre]
  | m + 1, pre => (List.range n).flatMap fun r : Nat => if (r : Int) ∈ pre then [] else goP n m (pre ++ [(r : Int)])
def allP (n : Nat) : List (List Int) := goP n n []
/-- one pair of places, one number: do two remainders contradict each other? -/
def hitP (n : Nat) (r : List Int) (i j d : Nat) : Bool := decide ((n - i) % d = 0) && decide ((n - j) % d = 0) && !decide (r.getD i 0 % (d : Int) = r.getD j 0 % (d : Int))
def clash3 (n : Nat) (r : List Int) (i j d : Nat) : Bool := (List.range d).any fun d => decide (2 ≤ d) && hitP n r i j d
def clash2 (n : Nat) (r : List Int) (i j : Nat) : Bool := (List.range j).any fun j => clash3 n r i j (n + 1)
def clash1 (n : Nat) (r : List Int) (i : Nat) : Bool := (List.range i).any fun i => clash2 n r i i
theorem clash3_succ (n : Nat) (r : List Int) (i j d : Nat) : clash3 n r i j (d + 1) = (clash3 n r i j d || (decide (2 ≤ d) && hitP n r i j d)) := by
  unfold clash3; rw [List.range_succ, List.any_append]; simp
theorem clash2_succ (n : Nat) (r : List Int) (i j : Nat) : clash2 n r i (j + 1) = (clash2 n r i j || clash3 n r i j (n + 1)) := by
  unfold clash2; rw [List.range_succ, List.any_append]; simp
theorem clash1_succ (n : Nat) (r : List Int) (i : Nat) : clash1 n r (i + 1) = (clash1 n r i || clash2 n r i i) := by
  unfold clash1; rw [List.range_succ, List.any_append]; simp
def smP (n : Nat) (l : List Int) : Bool := l.length == n && l.all fun x => decide (0 ≤ x) && decide (x < n)
def possB (n : Nat) (l : List Int) : Bool :=
  smP n l && checkL l == 0 && smP n (remL l) &&
  (if (countL l).2 = 0 then decide (1 ≤ (countL l).1 ∧ (countL l).1 ≤ lcmTo n) && ordL n (countL l).1.toNat == l && (List.range n).all fun i => decide ((remL l).getD i 0 = (countL l).1 % ((n : Int) - i))
   else countL l == (0, 12) && clash1 n (remL l) n)
theorem poss_all : ∀ n, n < 7 → 1 ≤ n → ((allP n).all (possB n)) = true := by decide +kernel
theorem lcm_small : ∀ n, n < 7 → 1 ≤ n → 1 ≤ lcmTo n ∧ lcmTo n ≤ 60 := by decide +kernel
end Bench06
