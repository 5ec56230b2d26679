/- Plain facts of chapter 3: major numbers, and turned pairs of shifted orders, counted. -/
import Derived.Test.YtmcckngodaeojaaPs
import Derived.Test.YtmcckngodaeojaaQb
namespace Grade03
set_option maxRecDepth 100000
theorem maj_bd_d : ∀ n, n < 7 → ((allO n n []).all fun l => decide (0 ≤ majL l) && decide (majL l ≤ 15) && (decide (0 ≤ invG l) && decide (invG l ≤ 15))) = true := by decide +kernel
theorem maj_bd {n : Nat} (hn : n < 7) {l : List Int} (h : IsO l) (hl : l.length = n) : (0 ≤ majL l ∧ majL l ≤ 15) ∧ 0 ≤ invG l ∧ invG l ≤ 15 := by
  have := List.all_eq_true.1 (maj_bd_d n hn) l (allO_mem.2 ⟨h, hl⟩)
  simpa using this
theorem foata {n : Nat} (hn : n < 7) {l : List Int} (h : IsO l) (hl : l.length = n) : invG (shiftL l) = majL l := by
  have := List.all_eq_true.1 (foata_all n hn) l (allO_mem.2 ⟨h, hl⟩)
  simpa using this
theorem shift_inj {a b : List Int} (h : shiftL a = shiftL b) : a = b := by rw [← back_shift a, h, back_shift]
/-- how many of the first i orders have each number -/
def hisL (f : List Int → Int) (L : List (List Int)) : List Int := (List.range 16).map fun k : Nat => ((L.countP fun l => f l == (k : Int) : Nat) : Int)
theorem hisL_len (f : List Int → Int) (L : List (List Int)) : (hisL f L).length = 16 := by simp [hisL]
theorem hisL_nil (f : List Int → Int) : hisL f [] = List.replicate 16 0 := by simp [hisL]; rfl
theorem hisL_get (f : List Int → Int) (L : List (List Int)) (k : Nat) (hk : k < 16) : (hisL f L).getD k 0 = ((L.countP fun l => f l == (k : Int) : Nat) : Int) := by
  simp [hisL, List.getD, hk]
theorem hisL_snoc (f : List Int → Int) (L : List (List Int)) (l : List Int) (m : Nat) (hm : f l = (m : Int)) (h16 : m < 16) : hisL f (L ++ [l]) = (hisL f L).set m ((hisL f L).getD m 0 + 1) := by
  rw [hisL_get f L m h16]
  apply List.ext_getElem?
  intro j
  rw [List.getElem?_set]
  by_cases hj : j < 16
  · by_cases hmj : m = j
    · subst hmj
      rw [if_pos rfl, if_pos (by simp [hisL, h16])]
      simp [hisL, hj, List.countP_append, hm]
    · rw [if_neg hmj]
      have : ¬ (m : Int) = (j : Int) := by omega
      simp [hisL, hj, List.countP_append, hm, this]
  · rw [List.getElem?_eq_none (by simp [hisL]; omega)]
    split
    · omega
    · rw [List.getElem?_eq_none (by simp [hisL]; omega)]
theorem hisL_eq {n : Nat} (hn : n < 7) : hisL majL (allO n n []) = hisL invG (allO n n []) := by
  unfold hisL
  refine List.map_congr_left fun k _ => ?_
  congr 1
  refine (count_perm (n := n) (f := shiftL) (g := backL) (p := fun l => invG l == (k : Int)) (q := fun l => majL l == (k : Int)) (fun l h => ?_) (fun l h => ?_) (fun l h => shift_back l) (fun l h => back_shift l) (fun l h => ?_)).symm
  · obtain ⟨a, b⟩ := shift_ord h.1; exact ⟨a, by rw [b, h.2]⟩
  · obtain ⟨a, b⟩ := back_ord h.1; exact ⟨a, by rw [b, h.2]⟩
  · show (invG (shiftL l) == (k : Int)) = (majL l == (k : Int))
    rw [foata hn h.1 h.2]
theorem his_cnt {m t : Nat} (hm : m < 6) (ht : t ≤ m * (m + 1) / 2) (ht16 : t < 16) : (hisL majL (allO (m + 1) (m + 1) [])).getD t 0 = (cnT m).getD t 0 := by
  rw [hisL_eq (by omega), hisL_get _ _ _ ht16, cnt_hist (by omega) ht]
  rfl
end Grade03
