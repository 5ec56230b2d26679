/- Plain functions of the tables of numbers. -/
import Derived.Test.YtjedmiegcbdedaaSpec
namespace Store11
def stepT (L : List Int) (n k : Nat) : List Int := L.set (n * 11 + k) (L.getD ((n - 1) * 11 + (k - 1)) 0 + k * L.getD ((n - 1) * 11 + k) 0)
def innerT (n : Nat) (L : List Int) : Nat → List Int
  | 0 => L
  | k + 1 => stepT (innerT n L k) n (k + 1)
theorem innerT_succ (n : Nat) (L : List Int) (k : Nat) : innerT n L (k + 1) = (innerT n L k).set (n * 11 + (k + 1)) ((innerT n L k).getD ((n - 1) * 11 + k) 0 + ((k : Int) + 1) * (innerT n L k).getD ((n - 1) * 11 + (k + 1)) 0) := rfl
def outerT : Nat → List Int
  | 0 => (List.replicate 110 0).set 0 1
  | n + 1 => innerT (n + 1) (outerT n) (n + 1)
def TRI : List Int := outerT 9
def smallB (L : List Int) : Bool := L.length == 110 && L.all (fun x => decide (0 ≤ x) && decide (x ≤ 100000))
theorem innerT_small : ∀ n, n < 9 → ∀ k, k < 10 → smallB (innerT (n + 1) (outerT n) k) = true := by decide +kernel
theorem smallB_get {L : List Int} (h : smallB L = true) (j : Nat) : L.length = 110 ∧ 0 ≤ L.getD j 0 ∧ L.getD j 0 ≤ 100000 := by
  unfold smallB at h
  simp only [Bool.and_eq_true, beq_iff_eq, List.all_eq_true, decide_eq_true_eq] at h
  refine ⟨h.1, ?_⟩
  by_cases hj : j < L.length
  · have := h.2 (L[j]) (List.getElem_mem hj)
    simpa [List.getD, hj] using this
  · have : L[j]? = none := List.getElem?_eq_none (by omega)
    simp [List.getD, this]

/-- the endings: k rooms, more boxes; k * 10 + more -/
def stepE (L : List Int) (m k : Nat) : List Int := L.set (k * 10 + m) (k * L.getD (k * 10 + (m - 1)) 0 + L.getD ((k + 1) * 10 + (m - 1)) 0)
def innerE (m : Nat) (L : List Int) : Nat → List Int
  | 0 => L
  | k + 1 => stepE (innerE m L k) m k
theorem innerE_succ (m : Nat) (L : List Int) (k : Nat) : innerE m L (k + 1) = (innerE m L k).set (k * 10 + m) ((k : Int) * (innerE m L k).getD (k * 10 + (m - 1)) 0 + (innerE m L k).getD ((k + 1) * 10 + (m - 1)) 0) := rfl
def outerE : Nat → List Int
  | 0 => (List.range 110).map fun i => if i % 10 = 0 then 1 else 0
  | m + 1 => innerE (m + 1) (outerE m) (10 - (m + 1))
def ENDS : List Int := outerE 9
theorem innerE_small : ∀ m, m < 9 → ∀ k, k < 11 → smallB (innerE (m + 1) (outerE m) k) = true := by decide +kernel
end Store11
