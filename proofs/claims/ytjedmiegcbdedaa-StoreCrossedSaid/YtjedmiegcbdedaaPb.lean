/- Plain functions of the tables of numbers. -/
import Derived.Test.YtjedmiegcbdedaaSpec
namespace Store11
def stepT (L : List Int) (n k : Nat) : List Int := L.set (n * 11 + k) (L.getD ((n - 1) * 11 + (k - 1)) 0 + k * L.getD ((n - 1) * 11 + k) 0)
def innerT (n : Nat) (L : List Int) : Nat → List Int
  | 0 => L
  | k + 1 => stepT (innerT n L k) n (k + 1)
theorem innerT_succ (n : Nat) (L : List Int) (k : Nat) : innerT n L (k + 1) = (innerT n L k).set (n * 11 + (k + 1)) ((innerT n L k).getD ((n - 1) * 11 + k) 0 + ((k : Int) + 1) * (innerT n L k).getD ((n - 1) * 11 + (k + 1)) 0) := rfl
def outerT : Nat → List Int
  | 0 => (List.replicate 110 0).set 0 1
  | n + 1 => innerT (n + 1) (outerT n) (n + 1)
def TRI : List Int := outerT 9
def smallB (L : List Int) : Bool := L.length == 110 && L.all (fun x => decide (0 ≤ x) && decide (x ≤ 100000))
theorem innerT_small : ∀ n, n < 9 → ∀ k, k < 10 → smallB (innerT (n + 1) (outerT n) k) = true := by decide +kernel
theorem smallB_get {L : List Int} (h : smallB L = true) (j : Nat) : L.length = 110 ∧ 0 ≤ L.getD j 0 ∧ L.getD j 0 ≤ 100000 := by
  unfold smallB at h
  simp only [Bool.and_eq_true, beq_iff_eq, List.all_eq_true, decide_eq_true_eq] at h
  refine ⟨h.1, ?_⟩
  by_cases hj : j < L.length
  · have := h.2 (L[j]) (List.getElem_mem hj)
    simpa [List.getD, hj] using this
  · have : L[j]? = none := List.getElem?_eq_none (by omega)
    simp [List.getD, this]

/-- the endings: k rooms, more boxes; k * 10 + more -/
def stepE (L : List Int) (m k : Nat) : List Int := L.set (k * 10 + m) (k * L.getD (k * 10 + (m - 1)) 0 + L.getD ((k + 1) * 10 + (m - 1)) 0)
def innerE (m : Nat) (L : List Int) : Nat → List Int
  | 0 => L
  | k + 1 => stepE (innerE m L k) m k
theorem innerE_succ (m : Nat) (L : List Int) (k : Nat) : innerE m L (k + 1) = (innerE m L k).set (k * 10 + m) ((k : Int) * (innerE m L k).getD (k * 10 + (m - 1)) 0 + (innerE m L k).getD ((k + 1) * 10 + (m - 1)) 0) := rfl
def outerE : Nat → List Int
  | 0 => (List.range 110).map fun i => if i % 10 = 0 then 1 else 0
  | m + 1 => innerE (m + 1) (outerE m) (10 - (m + 1))
def ENDS : List Int := outerE 9
theorem innerE_small : ∀ m, m < 9 → ∀ k, k < 11 → smallB (innerE (m + 1) (outerE m) k) = true := by decide +kernel
end Store11
namespace Store11
/-- how many divisions of n boxes have 0, 1, .. rooms -/
def rowN (n : Nat) : List Int := (TRI.drop (n * 11)).take 11
def countN (n : Nat) : Int := (rowN n).sum
theorem rowN_small : ∀ n, n < 10 → (rowN n).length = 11 ∧ (∀ k, k ≤ 11 → 0 ≤ ((rowN n).take k).sum ∧ ((rowN n).take k).sum ≤ 100000) ∧ ∀ k, k < 11 → 0 ≤ (rowN n).getD k 0 ∧ (rowN n).getD k 0 ≤ 100000 := by decide +kernel
theorem take_sum (l : List Int) (k : Nat) (h : k < l.length) : (l.take (k + 1)).sum = (l.take k).sum + l.getD k 0 := by
  rw [take_succ_getD l k h, List.sum_append]; simp
def countV (n : Int) : Int := if 1 ≤ n ∧ n ≤ 9 then countN n.toNat else 0
def countE (n : Int) : Int := if 1 ≤ n ∧ n ≤ 9 then 0 else 1
def intoV (n k : Int) : Int := if (1 ≤ n ∧ n ≤ 9) ∧ 1 ≤ k ∧ k ≤ n then (rowN n.toNat).getD k.toNat 0 else 0
def intoE (n k : Int) : Int := if (1 ≤ n ∧ n ≤ 9) ∧ 1 ≤ k ∧ k ≤ n then 0 else 1
def endN (k m : Nat) : Int := ENDS.getD (k * 10 + m) 0
theorem endN_small : ∀ k, k < 10 → ∀ m, m < 10 → k + m ≤ 9 → 0 < endN k m ∧ endN k m ≤ 100000 := by decide +kernel
theorem ends_len : ENDS.length = 110 := by decide +kernel
/-- the division with a number: so many boxes to come, so many rooms are begun -/
def atG : Nat → Int → Nat → List Int
  | 0, _, _ => []
  | m + 1, num, k => min (num / endN k m) k :: atG m (num - min (num / endN k m) k * endN k m) (if min (num / endN k m) (k : Int) = k then k + 1 else k)
def atE (n num : Int) : Int := if (1 ≤ n ∧ n ≤ 9) ∧ 0 ≤ num ∧ num < countN n.toNat then 0 else 1
def atL (n num : Int) : List Int := if atE n num = 0 then atG n.toNat num 0 else []
/-- the number of a division: so many rooms are begun -/
def numG : List Int → Nat → Int
  | [], _ => 0
  | r :: l, k => r * endN k l.length + numG l (max k (r.toNat + 1))
def numV (l : List Int) : Int := if chkL l = 0 then numG l 0 else 0
end Store11
namespace Store11
def sumK (F : List Int) (n : Nat) : Nat → Int
  | 0 => 0
  | k + 1 => sumK F n k + F.getD k 0 * F.getD (n - 1 - k) 0
def flatK : Nat → List Int
  | 0 => [1]
  | n + 1 => flatK n ++ [sumK (flatK n) (n + 1) (n + 1)]
def flatV (n : Int) : Int := if 1 ≤ n ∧ n ≤ 9 then (flatK n.toNat).getD n.toNat 0 else 0
theorem flatK_len : ∀ n, (flatK n).length = n + 1
  | 0 => rfl
  | n + 1 => by rw [flatK, List.length_append, flatK_len n]; rfl
theorem flatK_small : ∀ m, m < 10 → ∀ k, k < 11 → 0 ≤ (flatK m).getD k 0 ∧ (flatK m).getD k 0 ≤ 10000 := by decide +kernel
theorem sumK_small : ∀ m, m < 9 → ∀ k, k < 11 → 0 ≤ sumK (flatK m) (m + 1) k ∧ sumK (flatK m) (m + 1) k ≤ 100000 := by decide +kernel
end Store11
namespace Store11
theorem into_step : ∀ n : Nat, n < 8 → ∀ k : Nat, k < n + 2 → intoV ((n : Int) + 2) ((k : Int) + 1) = intoV ((n : Int) + 1) (k : Int) + ((k : Int) + 1) * intoV ((n : Int) + 1) ((k : Int) + 1) := by decide +kernel
theorem into_small : ∀ n : Nat, n < 10 → ∀ k : Nat, k < 11 → 0 ≤ intoV (n : Int) (k : Int) ∧ intoV (n : Int) (k : Int) ≤ 100000 := by decide +kernel
/-- the sum of the first ones -/
def sumI (n : Nat) : Nat → Int
  | 0 => 0
  | i + 1 => sumI n i + intoV (n : Int) ((i : Int) + 1)
theorem sumI_small : ∀ n : Nat, n < 10 → ∀ i : Nat, i < 10 → 0 ≤ sumI n i ∧ sumI n i ≤ 100000 := by decide +kernel
theorem sumI_count : ∀ n : Nat, n < 8 → countV ((n : Int) + 2) = sumI (n + 2) (n + 2) := by decide +kernel
theorem flatV_step (i : Nat) (h : i < 9) : flatV ((i : Int) + 1) = sumK (flatK i) (i + 1) (i + 1) := by
  unfold flatV
  rw [if_pos (by omega), show ((i : Int) + 1).toNat = i + 1 by omega, flatK, List.getD, List.getElem?_append_right (by rw [flatK_len]; exact Nat.le_refl _), flatK_len]
  simp
theorem flatK_step (i : Nat) (h : i < 9) : flatK i ++ [flatV ((i : Int) + 1)] = flatK (i + 1) := by rw [flatV_step i h]; rfl
theorem flatV_small : ∀ i : Nat, i < 9 → 0 ≤ flatV ((i : Int) + 1) ∧ flatV ((i : Int) + 1) ≤ 100000 := by decide +kernel
end Store11
