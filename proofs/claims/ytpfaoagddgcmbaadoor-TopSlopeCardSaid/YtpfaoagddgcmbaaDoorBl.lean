/- Plain functions of chapter 4: blends. No program in sight. -/
import Derived.Test.YtpfaoagddgcmbaaDoorPa
namespace Blend04
open Grade03
set_option maxRecDepth 100000
def chI (n : Nat) : Nat → Nat
  | 0 => 1
  | i + 1 => chI n i * (n - i) / (i + 1)
/-- how many blends of k of n leaves there are -/
def chN (n k : Nat) : Nat := if n < k then 0 else chI n k
/-- the greatest leaf: from one on -/
def leafF (k n : Nat) : Nat → Nat → Nat
  | 0, leaf => leaf
  | f + 1, leaf => if chN (leaf + 1) k ≤ n then leafF k n f (leaf + 1) else leaf
def leafT (k n : Nat) : Nat := leafF k n 11 (k - 1)
/-- what is left to number below the greatest leaf -/
def restT (k n : Nat) : Nat := chN (leafT k n + 1) k - 1 - n
/-- the blend of k leaves with a number -/
def nthL : Nat → Nat → List Int
  | 0, _ => []
  | k + 1, n => nthL k (restT (k + 1) n) ++ [(leafT (k + 1) n : Int)]
def numG (b : List Int) : Nat → Int
  | 0 => 0
  | k + 1 => (chN ((b.getD k 0).toNat + 1) (k + 1) : Int) - 1 - numG b k
def missL (a b : List Int) : Int := match a.find? (fun x => decide (x ∉ b)) with | none => -1 | some x => x
def rngI (n : Nat) : List Int := (List.range n).map fun x : Nat => (x : Int)
/-- what is not in a blend -/
def othL (n : Nat) (l : List Int) : List Int := (rngI n).filter fun x => decide (x ∉ l)
def ahdL (n : Nat) (l : List Int) : List Int := l ++ othL n l
def sumL : List Int → Int
  | [] => 0
  | x :: l => x + sumL l
/-- x - i, summed up -/
def wantL : Nat → List Int → Int
  | _, [] => 0
  | i, x :: l => x - i + wantL (i + 1) l
def ascB (n : Nat) : Int → List Int → Bool
  | _, [] => true
  | p, x :: l => decide (0 ≤ x) && decide (x < n) && decide (p < x) && ascB n x l
def blB (n k : Nat) (l : List Int) : Bool := l.length == k && ascB n (-1) l
/-- what TopChosen says of one blend -/
def choB (n k num : Nat) : Bool :=
  let l := nthL k num
  let many := chN n k
  let a := ahdL n l
  let s := sumL (codeL a)
  let m := majL a
  blB n k l && chkE a == 0 && s == wantL 0 l && (m == 0 || m == (k : Int)) && ((m == 0) == (s == 0)) &&
  chkE (ahdL n (othL n l)) == 0 && dist a (ahdL n (othL n l)) == (k : Int) * ((n : Int) - k) && numG l k == (num : Int) &&
  (many == 1 ||
    (let x := nthL k ((num + 1) % many)
     blB n k x && chkE (ahdL n x) == 0 && sumL (codeL (ahdL n x)) - s == missL x l - missL l x))
def choA (n : Nat) : Bool := (List.range (n + 1)).all fun k => decide (1 ≤ chN n k) && decide (chN n k ≤ 35) && (List.range (chN n k)).all fun m => choB n k m
theorem cho_all : ∀ n, n < 8 → 1 ≤ n → choA n = true := by decide +kernel
end Blend04
