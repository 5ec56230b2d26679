/- Plain facts of chapter 2: sorting by one's neighbours. No program in sight. -/
import Derived.Test.YtpfaoagddgcmbaaDoorHa
namespace Heap02
def toK (L : List Hp) (k : Nat) : Int := (L.getD k (0, 0)).2
/-- the first i are sorted by their last hour -/
def SrtK (L : List Hp) (i : Nat) : Prop := ∀ x y, x < y → y < i → toK L x ≤ toK L y
/-- the first i + 1 are, but for the one at j, which is not greater than those behind it -/
structure SrtJ (L : List Hp) (i j : Nat) : Prop where
  le : j ≤ i
  rest : ∀ x y, x < y → y ≤ i → x ≠ j → y ≠ j → toK L x ≤ toK L y
  own : ∀ y, j < y → y ≤ i → toK L j ≤ toK L y
theorem SrtJ.start {L : List Hp} {i : Nat} (h : SrtK L i) : SrtJ L i i := ⟨Nat.le_refl _, fun x y h1 h2 _ h4 => h x y h1 (by omega), fun y h1 h2 => by omega⟩
theorem SrtJ.done0 {L : List Hp} {i : Nat} (h : SrtJ L i 0) : SrtK L (i + 1) := fun x y h1 h2 => by
  by_cases hx : x = 0
  · rw [hx]; exact h.own y (by omega) (by omega)
  · exact h.rest x y h1 (by omega) hx (by omega)
theorem SrtJ.done {L : List Hp} {i m : Nat} (h : SrtJ L i (m + 1)) (hm : toK L m ≤ toK L (m + 1)) : SrtK L (i + 1) := fun x y h1 h2 => by
  have hle := h.le
  by_cases hx : x = m + 1
  · rw [hx]; exact h.own y (by omega) (by omega)
  · by_cases hy : y = m + 1
    · rw [hy]
      by_cases hxm : x = m
      · rw [hxm]; exact hm
      · exact Int.le_trans (h.rest x m (by omega) (by omega) hx (by omega)) hm
    · exact h.rest x y h1 (by omega) hx hy
def swpP (L : List Hp) (m : Nat) : List Hp := (L.set (m + 1) (L.getD m (0, 0))).set m (L.getD (m + 1) (0, 0))
theorem swpP_len (L : List Hp) (m : Nat) : (swpP L m).length = L.length := by simp [swpP]
theorem swpP_get (L : List Hp) (m : Nat) (h : m + 1 < L.length) (j : Nat) : (swpP L m).getD j (0, 0) = if j = m then L.getD (m + 1) (0, 0) else if j = m + 1 then L.getD m (0, 0) else L.getD j (0, 0) := by
  unfold swpP
  simp only [List.getD, List.getElem?_set, List.length_set]
  by_cases h1 : j = m
  · subst h1; simp; rw [if_pos (by omega)]; simp
  · by_cases h2 : j = m + 1
    · subst h2; simp [h]
    · rw [if_neg (by omega), if_neg (by omega), if_neg h1, if_neg h2]
theorem toK_swp (L : List Hp) (m : Nat) (h : m + 1 < L.length) (j : Nat) : toK (swpP L m) j = if j = m then toK L (m + 1) else if j = m + 1 then toK L m else toK L j := by
  unfold toK; rw [swpP_get L m h j]; split
  · rfl
  · split <;> rfl
theorem SrtJ.step {L : List Hp} {i m : Nat} (h : SrtJ L i (m + 1)) (hi : i < L.length) (hm : toK L (m + 1) < toK L m) : SrtJ (swpP L m) i m := by
  have hle := h.le
  have hg := toK_swp L m (by omega)
  refine ⟨by omega, fun x y h1 h2 h3 h4 => ?_, fun y h1 h2 => ?_⟩
  · rw [hg, hg, if_neg h3, if_neg h4]
    by_cases hx : x = m + 1
    · rw [if_pos hx, if_neg (by omega)]
      exact h.rest m y (by omega) h2 (by omega) (by omega)
    · rw [if_neg hx]
      by_cases hy : y = m + 1
      · rw [if_pos hy]
        exact h.rest x m (by omega) (by omega) hx (by omega)
      · rw [if_neg hy]
        exact h.rest x y h1 h2 hx hy
  · rw [hg, hg, if_pos rfl, if_neg (by omega)]
    by_cases hy : y = m + 1
    · rw [if_pos hy]; omega
    · rw [if_neg hy]; exact h.own y (by omega) h2
theorem swpP_perm (L : List Hp) (m : Nat) (h : m + 1 < L.length) : (swpP L m).Perm L := by
  have e1 : L = L.take m ++ L.getD m (0, 0) :: L.getD (m + 1) (0, 0) :: L.drop (m + 2) := by
    have h1 : L.drop m = L.getD m (0, 0) :: L.drop (m + 1) := by rw [List.drop_eq_getElem_cons (by omega)]; simp [List.getD, show m < L.length by omega]
    have h2 : L.drop (m + 1) = L.getD (m + 1) (0, 0) :: L.drop (m + 2) := by rw [List.drop_eq_getElem_cons h]; simp [List.getD, h]
    rw [← h2, ← h1, List.take_append_drop]
  have e2 : swpP L m = L.take m ++ L.getD (m + 1) (0, 0) :: L.getD m (0, 0) :: L.drop (m + 2) := by
    apply List.ext_getElem?
    intro j
    unfold swpP
    have hml : (L.take m).length = m := by simp; omega
    rw [List.getElem?_set, List.getElem?_set]
    simp only [List.length_set]
    rcases Nat.lt_trichotomy j m with hj | hj | hj
    · rw [if_neg (by omega), if_neg (by omega), List.getElem?_append_left (by omega), List.getElem?_take, if_pos hj]
    · subst hj
      rw [if_pos rfl, if_pos (by omega), List.getElem?_append_right (by omega), hml, Nat.sub_self]; rfl
    · rw [if_neg (by omega), List.getElem?_append_right (by omega), hml]
      by_cases hj2 : m + 1 = j
      · subst hj2
        rw [if_pos rfl, if_pos h, show m + 1 - m = 1 by omega]; rfl
      · rw [if_neg hj2]
        obtain ⟨d, rfl⟩ : ∃ d, j = m + 2 + d := ⟨j - (m + 2), by omega⟩
        rw [show m + 2 + d - m = d + 2 by omega, List.getElem?_cons_succ, List.getElem?_cons_succ, List.getElem?_drop]
  rw [e2]
  refine List.Perm.trans ?_ (List.Perm.of_eq e1.symm)
  exact (List.Perm.swap _ _ _).append_left _
end Heap02
