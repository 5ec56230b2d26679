/- TopSpaced: plain facts. Boxes divided among bands, as hours among heaps. -/
import Derived.Test.YtpfaoagddgcmbaaDoorTe
namespace Go.Proofs.YtpfaoagddgcmbaaDoor
open Go.RowKit Heap02 Grade03
/-- the place of a band, and where its part begins -/
def spP (n k j : Nat) : Nat := ((j + 1) * n + k - 1) / k - 1
def spF (n k j : Nat) : Nat := j * n / k
def spX (n k j : Nat) : Hp := ((spF n k j : Int), (spP n k j : Int))
def spH (n k i : Nat) : List Hp := (List.range i).map (spX n k)
def spL (n k i : Nat) : List Int := (List.range i).map fun j => (spP n k j : Int)
def spB (n k j : Nat) : Bool := Nat.ble 1 (((j + 1) * n + k - 1) / k) && Nat.ble (spF n k j) (spP n k j) && Nat.ble (spP n k j + 1) n && ((List.range 10).all fun i => bif Nat.blt i j then Nat.blt (spP n k i) (spP n k j) else true) && (bif Nat.beq (j + 1) k then Nat.beq (spP n k j + 1) n else true)
theorem spB_all : ((List.range 17).all fun n => (List.range 11).all fun k => bif Nat.ble 1 k && Nat.ble k n then (List.range 10).all fun j => bif Nat.blt j k then spB n k j else true else true) = true := by decide +kernel
structure SpF (n k j : Nat) : Prop where
  one : 1 ≤ ((j + 1) * n + k - 1) / k
  le : spF n k j ≤ spP n k j
  lt : spP n k j + 1 ≤ n
  inc : ∀ i, i < j → spP n k i < spP n k j
  last : j + 1 = k → spP n k j + 1 = n
theorem sp_facts {n k j : Nat} (hn : n ≤ 16) (hk : 1 ≤ k) (hk2 : k ≤ n) (h10 : k ≤ 10) (hj : j < k) : SpF n k j := by
  have a := List.all_eq_true.1 spB_all n (List.mem_range.2 (by omega))
  have a := List.all_eq_true.1 a k (List.mem_range.2 (by omega))
  rw [Nat.ble_eq_true_of_le hk, Nat.ble_eq_true_of_le hk2, Bool.true_and, cond_true] at a
  have a := List.all_eq_true.1 a j (List.mem_range.2 (by omega))
  have e : Nat.blt j k = true := Nat.ble_eq_true_of_le hj
  rw [e, cond_true] at a
  simp only [spB, Bool.and_eq_true] at a
  obtain ⟨⟨⟨⟨a1, a2⟩, a3⟩, a4⟩, a5⟩ := a
  refine ⟨Nat.le_of_ble_eq_true a1, Nat.le_of_ble_eq_true a2, Nat.le_of_ble_eq_true a3, fun i hi => ?_, fun h => ?_⟩
  · have b := List.all_eq_true.1 a4 i (List.mem_range.2 (by omega))
    have e : Nat.blt i j = true := Nat.ble_eq_true_of_le hi
    rw [e, cond_true] at b
    exact Nat.le_of_ble_eq_true b
  · have e : Nat.beq (j + 1) k = true := by rw [h]; exact Nat.beq_refl k
    rw [e, cond_true] at a5
    exact Nat.eq_of_beq_eq_true a5
theorem spH_len (n k i : Nat) : (spH n k i).length = i := by simp [spH]
theorem spL_len (n k i : Nat) : (spL n k i).length = i := by simp [spL]
theorem spH_next (n k i : Nat) : spH n k (i + 1) = spH n k i ++ [spX n k i] := by rw [spH, List.range_succ, List.map_append]; rfl
theorem spL_next (n k i : Nat) : spL n k (i + 1) = spL n k i ++ [(spP n k i : Int)] := by rw [spL, List.range_succ, List.map_append]; rfl
theorem spH_get {n k i x : Nat} (hx : x < i) : (spH n k i).getD x (0, 0) = spX n k x := by simp [spH, List.getD, hx]
theorem spL_get {n k i x : Nat} (hx : x < i) : (spL n k i).getD x 0 = (spP n k x : Int) := by simp [spL, List.getD, hx]
variable {n k : Nat}
theorem sp_nd (hn : n ≤ 16) (hk : 1 ≤ k) (hk2 : k ≤ n) (h10 : k ≤ 10) : (spL n k k).Nodup := nodup_of (fun i j hi hj e => by
  rw [spL_len] at hi hj
  rw [spL_get hi, spL_get hj] at e
  have a := (sp_facts hn hk hk2 h10 hi).inc j
  have b := (sp_facts hn hk hk2 h10 hj).inc i
  omega)
theorem sp_ok (hn : n ≤ 16) (hk : 1 ≤ k) (hk2 : k ≤ n) (h10 : k ≤ 10) : OkH (spH n k k) := by
  intro x hx
  obtain ⟨i, hi, rfl⟩ := List.mem_map.1 hx
  have h := sp_facts hn hk hk2 h10 (List.mem_range.1 hi)
  have := h.le
  have := h.lt
  simp only [spX]
  omega
theorem sp_plan (hn : n ≤ 16) (hk : 1 ≤ k) (hk2 : k ≤ n) (h10 : k ≤ 10) : PlanO (spH n k k) (spL n k k) := ⟨sp_nd hn hk hk2 h10, fun i hi => by
  rw [spH_len] at hi
  rw [spH_get hi, spL_get hi]
  have := (sp_facts hn hk hk2 h10 hi).le
  simp only [spX]
  omega⟩
theorem sp_feas (hn : n ≤ 16) (hk : 1 ≤ k) (hk2 : k ≤ n) (h10 : k ≤ 10) : Feas 0 (spH n k k) := feas_of (g := spL n k k) (by rw [spH_len, spL_len]) (sp_nd hn hk hk2 h10) (fun i hi => by
  have h := (sp_plan hn hk hk2 h10).bd i hi
  rw [spH_len] at hi
  rw [spL_get hi] at h ⊢
  omega)
theorem sp_end {E : Int} (hE : EndH (spH n k k) E) (hn : n ≤ 16) (hk : 1 ≤ k) (hk2 : k ≤ n) (h10 : k ≤ 10) : E ≤ (n : Int) - 1 ∧ (((k - 1) * n / k : Nat) : Int) ≤ E := by
  have hto : ∀ x ∈ spH n k k, x.1 ≤ (n : Int) - 1 ∧ x.2 ≤ (n : Int) - 1 := by
    intro x hx
    obtain ⟨i, hi, rfl⟩ := List.mem_map.1 hx
    have h := sp_facts hn hk hk2 h10 (List.mem_range.1 hi)
    have := h.le
    have := h.lt
    simp only [spX]
    omega
  constructor
  · apply Int.not_lt.1
    intro hlt
    refine hE.least ((n : Int) - 1) (by omega) (fun i hi => ?_) hlt ?_
    · rw [List.getD, List.getElem?_eq_getElem hi]
      exact (hto _ (List.getElem_mem _)).1
    · rw [clamp_all (fun x hx => (hto x hx).2)]
      exact sp_feas hn hk hk2 h10
  · have h := hE.ge (k - 1) (by rw [spH_len]; omega)
    rw [spH_get (by omega)] at h
    exact h
end Go.Proofs.YtpfaoagddgcmbaaDoor
