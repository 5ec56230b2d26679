/- Plain facts of chapter 9: the first bales from which a whole store is reached. -/
import Derived.Test.YtbhjphcomppjgaaDoorPk
namespace Beetle09
set_option maxRecDepth 100000
/-- A beginning can become good. -/
def plP (R C : Nat) (q m : Nat) : Bool := decide (2 * ((R : Int) + C) ≤ outl R C q + 4 * m)
/-- All is reached. -/
def plG (R C : Nat) (q : Nat) : Bool := decide (fin R C 0 q = allS R C)
/-- From how few. -/
def leastN (R C : Nat) : Nat := (R + C + 1) / 2
def plD (R C : Nat) : Option (List Nat) := dfs (fun l m => plP R C (setL l) m) (fun l => plG R C (setL l)) (els (R * C) (allS R C)) (leastN R C) []
def wit (R C : Nat) : Nat := (([[1, 3, 5, 11, 21], [3, 9, 35, 133, 523], [5, 19, 69, 267, 1045], [11, 73, 547, 4229, 33291], [21, 275, 4165, 65803, 1049621]] : List (List Nat)).getD (R - 1) []).getD (C - 1) 0
theorem wit_d : ∀ R, R < 5 → ∀ C, C < 5 → (decide (fin (R + 1) (C + 1) 0 (wit (R + 1) (C + 1)) = allS (R + 1) (C + 1)) && (decide ((els ((R + 1) * (C + 1)) (wit (R + 1) (C + 1))).length = leastN (R + 1) (C + 1)) && decide (wit (R + 1) (C + 1) < 2 ^ ((R + 1) * (C + 1))))) = true := by decide +kernel
theorem wit_ok {R C : Nat} (hs : Sd R C) : fin R C 0 (wit R C) = allS R C ∧ (els (R * C) (wit R C)).length = leastN R C ∧ wit R C < 2 ^ (R * C) := by
  have := sd_cases (p := fun R C => (decide (fin R C 0 (wit R C) = allS R C) && (decide ((els (R * C) (wit R C)).length = leastN R C) && decide (wit R C < 2 ^ (R * C)))) = true) wit_d hs
  rw [Bool.and_eq_true, Bool.and_eq_true, decide_eq_true_eq, decide_eq_true_eq, decide_eq_true_eq] at this
  exact ⟨this.1, this.2.1, this.2.2⟩
theorem allS_bit (R C i : Nat) : (allS R C).testBit i = decide (i < R * C) := pow_sub_one_bit _ _
theorem allS_lt (R C : Nat) : allS R C < 2 ^ (R * C) := by unfold allS; have := Nat.two_pow_pos (R * C); omega
theorem sub_all {R C s : Nat} (h : s < 2 ^ (R * C)) : Sub s (allS R C) := fun i hi => by rw [allS_bit]; exact decide_eq_true (bit_lt h hi)
/-- No beginning of a good list is left out. -/
theorem plP_sound {R C : Nat} (hs : Sd R C) {t : List Nat} (ht : ∀ i ∈ t, i < R * C) (hg : plG R C (setL t) = true) (t1 : List Nat) (n : Nat) (t2 : List Nat) (e : t = t1 ++ n :: t2) : plP R C (setL (t1 ++ [n])) t2.length = true := by
  refine decide_eq_true ?_
  have h1 : setL t = setL (t1 ++ [n]) ||| setL t2 := by
    rw [← setL_app, e]; simp
  have h2 := outl_more (s := setL (t1 ++ [n])) hs t2 fun i hi => ht i (by rw [e]; simp [hi])
  rw [← h1] at h2
  have h3 := outl_fin (R := R) (C := C) (z := 0) (s := setL t) hs
  rw [of_decide_eq_true hg, outl_all hs] at h3
  omega
/-- The search finds a list, and no good one comes before it. -/
theorem plD_first {R C : Nat} (hs : Sd R C) {t : List Nat} (h : t.Sublist (els (R * C) (allS R C))) (hl : t.length = leastN R C) (hg : plG R C (setL t) = true) : ∃ t', plD R C = some t' ∧ (t' = t ∨ lexlt t' t) := by
  have ht : ∀ i ∈ t, i < R * C := fun i hi => (mem_els.1 (h.subset hi)).1
  obtain ⟨t', h1, h2⟩ := dfs_first (p := fun l m => plP R C (setL l) m) (g := fun l => plG R C (setL l)) (b := []) (els_sorted _ _) h hl (by simpa using hg) (fun t1 n t2 e => by simpa using plP_sound hs ht hg t1 n t2 e)
  exact ⟨t', by unfold plD; simpa using h1, h2⟩
theorem plD_some {R C : Nat} (hs : Sd R C) : ∃ t, plD R C = some t ∧ t.Sublist (els (R * C) (allS R C)) ∧ t.length = leastN R C ∧ plG R C (setL t) = true := by
  obtain ⟨h1, h2, h3⟩ := wit_ok hs
  obtain ⟨t', e, _⟩ := plD_first hs (t := els (R * C) (wit R C)) (els_sub (sub_all h3)) h2 (decide_eq_true (by rw [setL_els h3]; exact h1))
  obtain ⟨t, g1, g2, g3, g4⟩ := dfs_some (show dfs _ _ _ _ _ = some t' from e)
  rw [List.nil_append] at g1
  subst g1
  exact ⟨t', e, g2, g3, g4⟩
def plL (R C : Nat) : List Nat := (plD R C).getD []
theorem plL_ok {R C : Nat} (hs : Sd R C) : plD R C = some (plL R C) ∧ (plL R C).Sublist (els (R * C) (allS R C)) ∧ (plL R C).length = leastN R C ∧ plG R C (setL (plL R C)) = true := by
  obtain ⟨t, h, h2, h3, h4⟩ := plD_some hs
  have : plL R C = t := by unfold plL; rw [h]; rfl
  rw [this]; exact ⟨h, h2, h3, h4⟩
/-- What Plant returns. -/
def plantE (r c : Int) : List Int := if sdB r c = true then li (plL r.toNat c.toNat) else []
theorem leastN_le {R C : Nat} (hs : Sd R C) : leastN R C ≤ 5 := by
  have := hs.r5
  have := hs.c5
  unfold leastN; omega
end Beetle09
