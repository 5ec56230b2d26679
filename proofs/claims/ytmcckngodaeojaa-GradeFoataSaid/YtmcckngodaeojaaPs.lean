/- Plain facts of chapter 3: the table of counts. -/
import Derived.Test.YtmcckngodaeojaaPi
namespace Grade03
set_option maxRecDepth 100000
def bdL (L : List Int) : Bool := L.all fun z => decide (0 ≤ z) && decide (z ≤ 5040)
theorem cnT_len : ∀ t, t < 7 → (cnT t).length = t * (t + 1) / 2 + 1 := by decide +kernel
theorem cnT_bd : ∀ t, t < 7 → bdL (cnT t) = true := by decide +kernel
theorem cn_bd : ∀ t, t < 6 → ((List.range (t * (t + 1) / 2 + 1)).all fun i => (List.range (t + 3)).all fun j => bdL (cnRow (cnT t) (t + 2) i j (cnNext (cnT t) (t + 2) i))) = true := by decide +kernel
theorem bdL_get {L : List Int} (h : bdL L = true) (i : Nat) : 0 ≤ L.getD i 0 ∧ L.getD i 0 ≤ 5040 := by
  by_cases hi : i < L.length
  · have := List.all_eq_true.1 h _ (mem_getD L i hi)
    simpa using this
  · rw [List.getD, List.getElem?_eq_none (by omega)]; simp
theorem cn_get {t i j : Nat} (ht : t < 6) (hi : i < (cnT t).length) (hj : j < t + 3) (k : Nat) : 0 ≤ (cnRow (cnT t) (t + 2) i j (cnNext (cnT t) (t + 2) i)).getD k 0 ∧ (cnRow (cnT t) (t + 2) i j (cnNext (cnT t) (t + 2) i)).getD k 0 ≤ 5040 := by
  rw [cnT_len t (by omega)] at hi
  have h1 := List.all_eq_true.1 (cn_bd t ht) i (List.mem_range.2 hi)
  have h2 := List.all_eq_true.1 h1 j (List.mem_range.2 hj)
  exact bdL_get h2 k
/-- what is wrong with a count's numbers, and the count -/
def cntE (n t : Int) : Int := if n < 1 ∨ 7 < n ∨ t < 0 ∨ n * (n - 1) / 2 < t then 1 else 0
def cntR (n t : Int) : Int := if cntE n t = 0 then (cnT (n.toNat - 1)).getD t.toNat 0 else 0
theorem cntE_ok {n t : Int} (h : ¬ (n < 1 ∨ 7 < n ∨ t < 0 ∨ n * (n - 1) / 2 < t)) : cntE n t = 0 := by rw [cntE, if_neg h]
theorem cntE_bad {n t : Int} (h : n < 1 ∨ 7 < n ∨ t < 0 ∨ n * (n - 1) / 2 < t) : cntE n t = 1 := by rw [cntE, if_pos h]
theorem cntR_bad {n t : Int} (h : cntE n t = 1) : cntR n t = 0 := by rw [cntR, h]; rfl
theorem cntR_ok {n : Nat} {t : Nat} (h : cntE n t = 0) : cntR n t = (cnT (n - 1)).getD t 0 := by rw [cntR, if_pos h]; simp
theorem cnt_hist {m t : Nat} (hm : m < 7) (ht : t ≤ m * (m + 1) / 2) : (cnT m).getD t 0 = (histT (m + 1) t : Int) := by
  have h1 := List.all_eq_true.1 (cn_hist m hm) t (List.mem_range.2 (by omega))
  exact beq_iff_eq.1 h1
end Grade03
