/- Plain functions of chapter 3: what holds of all orders of so many. -/
import Derived.Test.YtmcckngodaeojaaPa
namespace Grade03
set_option maxRecDepth 100000
theorem foata_all : ∀ n, n < 7 → ((allO n n []).all fun l => invG (shiftL l) == majL l) = true := by decide +kernel
/-- orders by how many pairs are turned: one bale more -/
def cnRow (C : List Int) (n : Nat) (k : Nat) : Nat → List Int → List Int
  | 0, N => N
  | m + 1, N => (cnRow C n k m N).set (k + m) ((cnRow C n k m N).getD (k + m) 0 + C.getD k 0)
def cnNext (C : List Int) (n : Nat) : Nat → List Int
  | 0 => List.replicate (C.length + n - 1) 0
  | k + 1 => cnRow C n k n (cnNext C n k)
def cnT : Nat → List Int
  | 0 => [1]
  | n + 1 => cnNext (cnT n) (n + 2) (cnT n).length
def histT (n k : Nat) : Nat := (allO n n []).countP fun l => invG l == (k : Int)
theorem cn_hist : ∀ n, n < 7 → ((List.range (n * (n + 1) / 2 + 1)).all fun k => (cnT n).getD k 0 == (histT (n + 1) k : Int)) = true := by decide +kernel
end Grade03
