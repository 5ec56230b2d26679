/- Plain facts of chapter 9: from how few bales a whole store is reached, by trying all sets. -/
import Derived.Test.YtbhjphcomppjgaaDoorPs
namespace Beetle09
set_option maxRecDepth 100000
theorem plL_get {R C i : Nat} (hs : Sd R C) (hi : i < (plL R C).length) : (plL R C).getD i 0 < R * C := by
  have := (plL_ok hs).2.1.subset (show (plL R C).getD i 0 ∈ plL R C by rw [List.getD, List.getElem?_eq_getElem hi]; exact List.getElem_mem hi)
  exact (mem_els.1 this).1
theorem plL_asc {R C i : Nat} (hs : Sd R C) (hi : i + 1 < (plL R C).length) : (plL R C).getD i 0 < (plL R C).getD (i + 1) 0 := by
  have hp : (plL R C).Pairwise (· < ·) := List.Pairwise.sublist (plL_ok hs).2.1 (els_sorted _ _)
  have := List.pairwise_iff_getElem.1 hp i (i + 1) (by omega) hi (by omega)
  simpa [List.getD, hi, show i < (plL R C).length by omega] using this
theorem setL_take {l : List Nat} {i : Nat} (hi : i < l.length) : setL (l.take (i + 1)) = setL (l.take i) ||| 2 ^ (l.getD i 0) := by
  rw [List.take_succ_eq_append_getElem hi, setL_app, show l.getD i 0 = l[i] by simp [List.getD, hi]]
  simp [setL]
theorem outl_zero (R C : Nat) : outl R C 0 = 0 := by
  unfold outl
  have : ∀ N, sm (fun n => if (0 : Nat).testBit n then 4 - (cnt R C 0 n : Int) else 0) N = 0 := fun N => by
    induction N with
    | zero => rfl
    | succ N ih => rw [sm, ih]; simp
  exact this _
/-- No smaller set, and none before the list, reaches a whole store. -/
theorem plan_first {R C o : Nat} (hs : Sd R C) (ho : o < 2 ^ (R * C)) (h1 : ¬ leastN R C < (els 25 o).length) (h2 : (els 25 o).length = leastN R C → cmpL (li (els 25 o)) (li (plL R C)) < 0) : fin R C 0 o ≠ allS R C := by
  intro hf
  rw [els_top ho hs.n25] at h1 h2
  have hle : leastN R C ≤ (els (R * C) o).length := by
    have a1 := outl_fin (R := R) (C := C) (z := 0) (s := o) hs
    rw [hf, outl_all hs] at a1
    have a2 := outl_more (s := 0) hs (els (R * C) o) (fun i hi => (mem_els.1 hi).1)
    rw [Nat.zero_or, setL_els ho, outl_zero] at a2
    unfold leastN
    omega
  have hlen : (els (R * C) o).length = leastN R C := by omega
  have hlx := (cmpL_lex _ _ (by rw [hlen]; exact (plL_ok hs).2.2.1.symm)).1.1 (h2 hlen)
  obtain ⟨t', ht', hor⟩ := plD_first hs (t := els (R * C) o) (els_sub (sub_all ho)) hlen (by rw [setL_els ho]; exact decide_eq_true hf)
  rw [(plL_ok hs).1] at ht'
  obtain rfl := Option.some.inj ht'
  rcases hor with h | h
  · rw [h] at hlx; exact lexlt_irr _ hlx
  · exact lexlt_irr _ (lexlt_trans _ _ _ hlx h)
end Beetle09
