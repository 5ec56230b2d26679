/- Plain functions of counts and numbers. -/
import Derived.Test.YtjedmiegcbdedaaPb
namespace Store11
/-- how many divisions of n boxes have 0, 1, .. rooms -/
def rowN (n : Nat) : List Int := (TRI.drop (n * 11)).take 11
def countN (n : Nat) : Int := (rowN n).sum
theorem rowN_small : ∀ n, n < 10 → (rowN n).length = 11 ∧ (∀ k, k ≤ 11 → 0 ≤ ((rowN n).take k).sum ∧ ((rowN n).take k).sum ≤ 100000) ∧ ∀ k, k < 11 → 0 ≤ (rowN n).getD k 0 ∧ (rowN n).getD k 0 ≤ 100000 := by decide +kernel
theorem take_sum (l : List Int) (k : Nat) (h : k < l.length) : (l.take (k + 1)).sum = (l.take k).sum + l.getD k 0 := by
  rw [take_succ_getD l k h, List.sum_append]; simp
def countV (n : Int) : Int := if 1 ≤ n ∧ n ≤ 9 then countN n.toNat else 0
def countE (n : Int) : Int := if 1 ≤ n ∧ n ≤ 9 then 0 else 1
def intoV (n k : Int) : Int := if (1 ≤ n ∧ n ≤ 9) ∧ 1 ≤ k ∧ k ≤ n then (rowN n.toNat).getD k.toNat 0 else 0
def intoE (n k : Int) : Int := if (1 ≤ n ∧ n ≤ 9) ∧ 1 ≤ k ∧ k ≤ n then 0 else 1
def endN (k m : Nat) : Int := ENDS.getD (k * 10 + m) 0
theorem endN_small : ∀ k, k < 10 → ∀ m, m < 10 → k + m ≤ 9 → 0 < endN k m ∧ endN k m ≤ 100000 := by decide +kernel
theorem ends_len : ENDS.length = 110 := by decide +kernel
/-- the division with a number: so many boxes to come, so many rooms are begun -/
def atG : Nat → Int → Nat → List Int
  | 0, _, _ => []
  | m + 1, num, k => min (num / endN k m) k :: atG m (num - min (num / endN k m) k * endN k m) (if min (num / endN k m) (k : Int) = k then k + 1 else k)
def atE (n num : Int) : Int := if (1 ≤ n ∧ n ≤ 9) ∧ 0 ≤ num ∧ num < countN n.toNat then 0 else 1
def atL (n num : Int) : List Int := if atE n num = 0 then atG n.toNat num 0 else []
/-- the number of a division: so many rooms are begun -/
def numG : List Int → Nat → Int
  | [], _ => 0
  | r :: l, k => r * endN k l.length + numG l (max k (r.toNat + 1))
def numV (l : List Int) : Int := if chkL l = 0 then numG l 0 else 0
end Store11
