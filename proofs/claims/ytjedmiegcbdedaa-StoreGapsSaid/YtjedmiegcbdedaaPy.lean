/- Plain functions: flat divisions counted one by one. -/
import Derived.Test.YtjedmiegcbdedaaPx
import Derived.Test.YtjedmiegcbdedaaPb
namespace Store11
/-- flat divisions that begin with some boxes, and have so many more -/
def flN : Nat → List Int → Int
  | 0, pre => if 0 < (cnR pre).1 then 0 else 1
  | m + 1, pre => if 0 < (cnR pre).1 then 0 else sm (fun r => flN m (pre ++ [(r : Int)])) ((manyL pre).toNat + 1)
theorem flN_flat (m : Nat) (pre : List Int) (h : 0 < (cnR pre).1) : flN m pre = 0 := by
  cases m <;> rw [flN, if_pos h]
theorem flN_zero (pre : List Int) (h : ¬ 0 < (cnR pre).1) : flN 0 pre = 1 := by rw [flN, if_neg h]
theorem flN_succ (m : Nat) (pre : List Int) (h : ¬ 0 < (cnR pre).1) : flN (m + 1) pre = sm (fun r => flN m (pre ++ [(r : Int)])) ((manyL pre).toNat + 1) := by rw [flN, if_neg h]
/-- does a box more make a crossing -/
def xB (l : List Int) (r : Int) : Bool := (List.range l.length).any fun j => l.getD j 0 == r && (List.range j).any fun i => l.getD i 0 != r && (l.drop (j + 1)).contains (l.getD i 0)
theorem xB_iff (l : List Int) (r : Int) : xB l r = true ↔ ∃ i j k, i < j ∧ j < k ∧ k < l.length ∧ l.getD j 0 = r ∧ l.getD i 0 = l.getD k 0 ∧ l.getD i 0 ≠ r := by
  unfold xB
  simp only [List.any_eq_true, List.mem_range, Bool.and_eq_true, beq_iff_eq, bne_iff_ne, List.contains_iff_mem]
  constructor
  · rintro ⟨j, h1, h2, i, h3, h4, h5⟩
    obtain ⟨k, hk, e⟩ := List.mem_iff_getElem.1 h5
    simp only [List.length_drop] at hk
    rw [List.getElem_drop] at e
    refine ⟨i, j, j + 1 + k, h3, by omega, by omega, h2, ?_, h4⟩
    rw [← e]
    simp [List.getD, show j + 1 + k < l.length by omega]
  · rintro ⟨i, j, k, h1, h2, h3, h4, h5, h6⟩
    refine ⟨j, by omega, h4, i, h1, h6, ?_⟩
    rw [h5]
    refine List.mem_iff_getElem.2 ⟨k - (j + 1), by simp; omega, ?_⟩
    rw [List.getElem_drop]
    simp [List.getD, h3, show j + 1 + (k - (j + 1)) = k by omega]
theorem noC_app {l : List Int} (h : NoC l) (r : Int) : NoC (l ++ [r]) ↔ xB l r = false := by
  rw [Bool.eq_false_iff, Ne, xB_iff]
  constructor
  · rintro hn ⟨i, j, k, h1, h2, h3, h4, h5, h6⟩
    have := hn i j k l.length h1 h2 h3 (by simp) (by rw [app_getD _ _ _ (by omega), app_getD _ _ _ (by omega), h5]) (by rw [app_getD _ _ _ (by omega), app_last, h4])
    rw [app_getD _ _ _ (by omega), app_getD _ _ _ (by omega), h4] at this
    exact h6 this
  · intro hn i j k m h1 h2 h3 h4 h5 h6
    simp only [List.length_append, List.length_singleton] at h4
    rw [app_getD _ _ i (by omega), app_getD _ _ k (by omega)] at h5
    rw [app_getD _ _ j (by omega)] at h6
    rw [app_getD _ _ i (by omega), app_getD _ _ j (by omega)]
    by_cases e : m = l.length
    · subst e
      rw [app_last] at h6
      refine Decidable.byContradiction fun hne => hn ⟨i, j, k, h1, h2, h3, h6, h5, fun e => hne (e.trans h6.symm)⟩
    · rw [app_getD _ _ m (by omega)] at h6
      exact h i j k m h1 h2 h3 (by omega) h5 h6
/-- the same, counted fast -/
def flQ : Nat → List Int → Int
  | 0, _ => 1
  | m + 1, pre => sm (fun r => if xB pre (r : Int) then 0 else flQ m (pre ++ [(r : Int)])) ((manyL pre).toNat + 1)
theorem flN_flQ : ∀ m pre, NoC pre → flN m pre = flQ m pre
  | 0, pre, h => by rw [flN_zero pre (by rw [(flat_iff pre).2 h]; decide)]; rfl
  | m + 1, pre, h => by
    rw [flN_succ m pre (by rw [(flat_iff pre).2 h]; decide), flQ]
    refine sm_congr _ fun r _ => ?_
    by_cases hx : xB pre (r : Int) = true
    · rw [if_pos hx, flN_flat]
      have := cnR_nonneg (pre ++ [(r : Int)])
      have h2 : (cnR (pre ++ [(r : Int)])).1 ≠ 0 := fun e => by
        have := (noC_app h (r : Int)).1 ((flat_iff _).1 e)
        rw [hx] at this; cases this
      omega
    · rw [if_neg hx]
      exact flN_flQ m _ ((noC_app h (r : Int)).2 (by simpa using hx))
set_option maxRecDepth 100000 in
theorem flQ_all : ∀ n, n < 10 → 1 ≤ n → flQ n [] = flatV n := by decide +kernel
theorem flN_all (n : Nat) (h : n < 10) (h1 : 1 ≤ n) : flN n [] = flatV n := by
  rw [flN_flQ n [] (fun i j k m _ _ _ h4 => by simp at h4), flQ_all n h h1]
theorem sm_le {f : Nat → Int} (B : Int) : ∀ n, (∀ i, i < n → 0 ≤ f i ∧ f i ≤ B) → 0 ≤ sm f n ∧ sm f n ≤ n * B
  | 0, _ => by simp [sm]
  | n + 1, h => by
    have ih := sm_le B n (fun i hi => h i (by omega))
    have := h n (by omega)
    rw [sm]
    push_cast
    rw [Int.add_mul]
    omega
/-- so many, at most -/
def capB : Nat → Int
  | 0 => 1
  | m + 1 => 10 * capB m
theorem capB_pos : ∀ m, 1 ≤ capB m
  | 0 => by decide
  | m + 1 => by have := capB_pos m; rw [capB]; omega
theorem capB_le : ∀ m, m < 10 → capB m ≤ 1000000000 := by decide
theorem many_app (pre : List Int) (h : manyL pre ≤ pre.length) (r : Nat) (hr : (r : Int) ≤ manyL pre) : manyL (pre ++ [(r : Int)]) ≤ (pre ++ [(r : Int)]).length := by
  rw [manyL_snoc]; simp; omega
theorem flN_bd : ∀ m pre, manyL pre ≤ pre.length → pre.length + m ≤ 9 → 0 ≤ flN m pre ∧ flN m pre ≤ capB m
  | 0, pre, _, _ => by rw [flN, capB]; split <;> omega
  | m + 1, pre, h, hl => by
    have hp := manyL_nonneg pre
    have hc := capB_pos m
    rw [flN, capB]
    split
    · omega
    · have := sm_le (f := fun r => flN m (pre ++ [(r : Int)])) (capB m) ((manyL pre).toNat + 1) (fun r hr => flN_bd m _ (many_app pre h r (by omega)) (by simp; omega))
      refine ⟨this.1, Int.le_trans this.2 (Int.mul_le_mul_of_nonneg_right (by omega) (by omega))⟩
end Store11
