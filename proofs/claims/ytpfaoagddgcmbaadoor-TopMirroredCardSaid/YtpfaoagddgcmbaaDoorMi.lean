/- Plain facts of TopMirrored: all counts. No program in sight. -/
import Derived.Test.YtpfaoagddgcmbaaDoorGa
import Derived.Test.YtpfaoagddgcmbaaDoorBa
import Derived.Test.YtpfaoagddgcmbaaDoorBl
namespace Mirror06
open Bench06 Grade03 Blend04
set_option maxRecDepth 100000
def plcL (n k : Nat) : List Int := (List.range n).map fun r : Nat => whenG (k : Int) n (r : Int) 0
def mirB (n k : Nat) : Bool :=
  let l := ordL n k
  let m := ordL n (lcmTo n + 1 - k)
  let s := sumL (codeL l)
  chkE l == 0 && chkE m == 0 && chkE (plcL n k) == 0 && chkE (rngI n) == 0 && l.length == n && m.length == n && s + sumL (codeL m) == (n : Int) * ((n : Int) - 1) / 2 && sumL (codeL (plcL n k)) == s && ((difL (rngI n) l).length : Int) == s
def mirA (n a b : Nat) : Bool := (List.range b).all fun k => mirB n (a + k + 1)
theorem lcm_bd : ∀ n, n < 8 → 1 ≤ n → 1 ≤ lcmTo n ∧ lcmTo n ≤ 420 := by decide +kernel
theorem mir6 : ∀ n, n < 7 → 1 ≤ n → mirA n 0 (lcmTo n) = true := by decide +kernel
end Mirror06
