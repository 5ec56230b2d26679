/- Plain functions of chapter 1: carts and bays; and what holds of the codes of all orders. No program in sight. -/
import Derived.Test.YtpfaoagddgcmbaaDoorPa
namespace Dock01
open Grade03
set_option maxRecDepth 100000
/-- the bay of a cart that comes: the first free one from its wish on -/
def comeT (bays t wish : Nat) : Option Nat := (List.range bays).find? fun b => decide (wish ≤ b) && !t.testBit b
/-- what becomes of a cart: its bay, and how far it had to go on -/
def fateT (bays t : Nat) (w : Int) : Option (Nat × Nat) := (comeT bays t w.toNat).map fun b => (b, b - w.toNat)
def takeT (bays t : Nat) (w : Int) : Nat := match comeT bays t w.toNat with | none => t | some b => t ||| 2 ^ b
/-- the row, and what became of the carts, after k of them -/
def rowK (bays : Nat) (ws : List Int) : Nat → Nat
  | 0 => 0
  | k + 1 => takeT bays (rowK bays ws k) (ws.getD k 0)
def fateK (bays : Nat) (ws : List Int) : Nat → List (Option (Nat × Nat))
  | 0 => []
  | k + 1 => fateK bays ws k ++ [fateT bays (rowK bays ws k) (ws.getD k 0)]
def fatesL (bays : Nat) (ws : List Int) : List (Option (Nat × Nat)) := fateK bays ws ws.length
theorem fateK_len (bays : Nat) (ws : List Int) : ∀ k, (fateK bays ws k).length = k
  | 0 => rfl
  | k + 1 => by rw [fateK, List.length_append, fateK_len bays ws k]; rfl
def bayI (f : Option (Nat × Nat)) : Int := match f with | none => -1 | some p => (p.1 : Int)
def wayI (f : Option (Nat × Nat)) : Int := match f with | none => 0 | some p => (p.2 : Int)
def lucI (f : Option (Nat × Nat)) : Int := match f with | none => 0 | some p => if p.2 = 0 then 1 else 0
def parkL (bays : Nat) (ws : List Int) : List Int := (fatesL bays ws).map bayI
/-- a sum over the first k -/
def sumK (g : Option (Nat × Nat) → Int) (F : List (Option (Nat × Nat))) : Nat → Int
  | 0 => 0
  | k + 1 => sumK g F k + g (F.getD k none)
def servesL (F : List (Option (Nat × Nat))) : Bool := F.all fun f => f.isSome
/-- how many wishes lead to a bay: the taken ones in front of it without a gap, and itself -/
def backT (t : Nat) : Nat → Nat
  | 0 => 1
  | b + 1 => if t.testBit b then backT t b + 1 else 1
/-- the bays that are taken after k carts -/
def tookK (l : List Int) : Nat → Nat
  | 0 => 0
  | k + 1 => tookK l k ||| 2 ^ (l.getD k 0).toNat
def waysK (l : List Int) : Nat → Nat
  | 0 => 1
  | k + 1 => waysK l k * backT (tookK l k) (l.getD k 0).toNat
/-- turned pairs, as the law counts them: up to place i, and at place i up to k -/
def trnR (l : List Int) (i : Nat) : Nat → Int
  | 0 => 0
  | k + 1 => trnR l i k + if l.getD i 0 < l.getD k 0 then 1 else 0
def trnA (l : List Int) : Nat → Int
  | 0 => 0
  | i + 1 => trnA l i + trnR l i i
/-- bays behind each other that are taken before place i -/
def runF (l : List Int) (i b : Nat) : Nat → Nat → Nat
  | 0, m => m
  | f + 1, m => if m ≤ b ∧ ((b : Int) - m) ∈ l.take i then runF l i b f (m + 1) else m
def wantK (l : List Int) : Nat → Nat
  | 0 => 1
  | i + 1 => wantK l i * runF l i (l.getD i 0).toNat 8 1
def smlB (n : Nat) (l : List Int) : Bool := l.length == n && l.all fun x => decide (0 ≤ x) && decide (x < n)
def codB (n : Nat) (l : List Int) : Bool :=
  smlB n (codeL l) && servesL (fatesL n (codeL l)) && (sumK wayI (fatesL n (codeL l)) n == (n : Int) * ((n : Int) - 1) / 2 - trnA l n) &&
  (parkL n l == l) && (sumK lucI (fatesL n l) n == (n : Int)) && (waysK l n == wantK l n) && decide (wantK l n ≤ 5040)
theorem cod6 : ∀ n, n < 7 → ((allO n n []).all (codB n)) = true := by decide +kernel
end Dock01
