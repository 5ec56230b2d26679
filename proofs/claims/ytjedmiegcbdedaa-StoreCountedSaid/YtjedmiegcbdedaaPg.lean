/- Plain laws of the references of chapter 11: divisions, counts. -/
import Derived.Test.YtjedmiegcbdedaaPf
import Derived.Test.YtjedmiegcbdedaaPa
namespace Store11
/-- how many rooms -/
def manyL : List Int → Int
  | [] => 0
  | l => l.foldl (fun m x => max m (x + 1)) 0
theorem manyL_def (l : List Int) : manyL l = l.foldl (fun m x => max m (x + 1)) 0 := by cases l <;> rfl
theorem manyL_snoc (l : List Int) (x : Int) : manyL (l ++ [x]) = max (manyL l) (x + 1) := by
  rw [manyL_def, manyL_def, List.foldl_append]; rfl
theorem manyL_nonneg (l : List Int) : 0 ≤ manyL l := by
  rw [manyL_def]
  have : ∀ (l : List Int) (m : Int), m ≤ l.foldl (fun m x => max m (x + 1)) m := by
    intro l
    induction l with
    | nil => intro m; simp
    | cons y l ih => intro m; have := ih (max m (y + 1)); simp only [List.foldl_cons]; omega
  exact this l 0
theorem manyL_take (l : List Int) (k : Nat) (h : k < l.length) : manyL (l.take (k + 1)) = max (manyL (l.take k)) (l.getD k 0 + 1) := by
  rw [take_succ_getD l k h, manyL_snoc]
theorem manyL_le (l : List Int) (B : Int) (hB : 0 ≤ B) (h : ∀ k, k < l.length → l.getD k 0 < B) : manyL l ≤ B := by
  have : ∀ k, k ≤ l.length → manyL (l.take k) ≤ B := by
    intro k
    induction k with
    | zero => intro _; simpa [manyL] using hB
    | succ k ih => intro hk; have h1 := ih (by omega); have h2 := h k (by omega); rw [manyL_take l k (by omega)]; omega
  have := this l.length (Nat.le_refl _)
  rwa [List.take_length] at this

/-- the state behind k labels -/
def dsK (l : List Int) (k : Nat) : List Int × List Int := (l.take k).foldl divS ([], [])
theorem dsK_succ (l : List Int) (k : Nat) (h : k < l.length) : dsK l (k + 1) = divS (dsK l k) (l.getD k 0) := by
  unfold dsK; rw [take_succ_getD l k h, List.foldl_append]; rfl
theorem divS_len2 (st : List Int × List Int) (x : Int) : (divS st x).2.length = st.2.length + 1 := by unfold divS; split <;> simp
theorem dsK_len (l : List Int) : ∀ k, k ≤ l.length → (dsK l k).2.length = k
  | 0, _ => by simp [dsK]
  | k + 1, h => by rw [dsK_succ l k (by omega), divS_len2, dsK_len l k (by omega)]
theorem fstI_bound : ∀ (l : List Int) (x : Int) (i : Int), fstI l x = some i → 0 ≤ i ∧ i < l.length
  | [], _, _, h => by cases h
  | y :: l, x, i, h => by
    rw [fstI] at h
    split at h
    · cases h; simp
    · cases hf : fstI l x with
      | none => rw [hf] at h; cases h
      | some j =>
        rw [hf] at h
        have := fstI_bound l x j hf
        simp at h
        simp; omega
theorem fstI_app (l : List Int) (y x : Int) (i : Int) (h : fstI l x = some i) : fstI (l ++ [y]) x = some i := by
  induction l generalizing i with
  | nil => cases h
  | cons z l ih =>
    rw [fstI] at h
    rw [List.cons_append, fstI]
    split
    · rename_i hz; rw [if_pos hz] at h; exact h
    · rename_i hz
      rw [if_neg hz] at h
      cases hf : fstI l x with
      | none => rw [hf] at h; cases h
      | some j => rw [ih j hf]; rw [hf] at h; exact h
theorem fstI_new (l : List Int) (x : Int) (h : fstI l x = none) : fstI (l ++ [x]) x = some (l.length : Int) := by
  rw [fstI_snoc x l h]; simp
/-- what is known of the state: rooms, keys -/
structure DsOk (l : List Int) (k : Nat) (st : List Int × List Int) : Prop where
  len : st.2.length = k
  many : manyL st.2 = st.1.length
  known : ∀ j, j < k → fstI st.1 (l.getD j 0) = some (st.2.getD j 0)
  back : ∀ x i, fstI st.1 x = some i → ∃ j, j < k ∧ l.getD j 0 = x
theorem dsK_ok (l : List Int) : ∀ k, k ≤ l.length → DsOk l k (dsK l k)
  | 0, _ => ⟨rfl, rfl, fun j h => by omega, fun x i h => by cases h⟩
  | k + 1, hk => by
    have ih := dsK_ok l k (by omega)
    have hs := dsK_succ l k (by omega)
    cases hf : fstI (dsK l k).1 (l.getD k 0) with
    | some i =>
      have hd : dsK l (k + 1) = ((dsK l k).1, (dsK l k).2 ++ [i]) := by rw [hs, divS, hf]
      have hi := fstI_bound _ _ _ hf
      rw [hd]
      refine ⟨by simp [ih.len], by rw [manyL_snoc, ih.many]; simp; omega, fun j hj => ?_, fun x i' h => ?_⟩
      · by_cases hjk : j = k
        · subst hjk; rw [hf]; simp [List.getD, List.getElem?_append_right, ih.len]
        · rw [ih.known j (by omega)]; simp [List.getD, List.getElem?_append_left, ih.len, show j < k by omega]
      · obtain ⟨j, h1, h2⟩ := ih.back x i' h
        exact ⟨j, by omega, h2⟩
    | none =>
      have hd : dsK l (k + 1) = ((dsK l k).1 ++ [l.getD k 0], (dsK l k).2 ++ [((dsK l k).1.length : Int)]) := by rw [hs, divS, hf]
      rw [hd]
      refine ⟨by simp [ih.len], by rw [manyL_snoc, ih.many]; simp; omega, fun j hj => ?_, fun x i' h => ?_⟩
      · by_cases hjk : j = k
        · subst hjk; rw [fstI_new _ _ hf]; simp [List.getD, List.getElem?_append_right, ih.len]
        · rw [fstI_app _ _ _ _ (ih.known j (by omega))]; simp [List.getD, List.getElem?_append_left, ih.len, show j < k by omega]
      · simp only at h
        rw [fstI_snoc _ _ hf] at h
        dsimp only at h
        split at h
        · rename_i he; exact ⟨k, by omega, he.symm⟩
        · obtain ⟨j, h1, h2⟩ := ih.back x i' h
          exact ⟨j, by omega, h2⟩
theorem dsK_bound (l : List Int) (k : Nat) (hk : k ≤ l.length) (j : Nat) (hj : j < k) : 0 ≤ (dsK l k).2.getD j 0 ∧ (dsK l k).2.getD j 0 < (dsK l k).1.length := fstI_bound _ _ _ ((dsK_ok l k hk).known j hj)
theorem dsK_keys (l : List Int) : ∀ k, k ≤ l.length → (dsK l k).1.length ≤ k
  | 0, _ => by simp [dsK]
  | k + 1, h => by
    have ih := dsK_keys l k (by omega)
    rw [dsK_succ l k (by omega), divS]
    split
    · simp; omega
    · simp; omega
theorem dsK_all (l : List Int) : (dsK l l.length).2 = divL l := by unfold dsK divL; rw [List.take_length]
/-- the next room -/
def nxt (l : List Int) (k : Nat) : Int := match fstI (dsK l k).1 (l.getD k 0) with | some i => i | none => ((dsK l k).1.length : Int)
theorem dsK_next (l : List Int) (k : Nat) (h : k < l.length) : (dsK l (k + 1)).2 = (dsK l k).2 ++ [nxt l k] := by
  rw [dsK_succ l k h, divS, nxt]
  cases fstI (dsK l k).1 (l.getD k 0) <;> rfl

/-- how many divisions go on -/
def intoR (k : Int) : Nat → Int → Int
  | 0, want => if want < 0 ∨ k = want then 1 else 0
  | m + 1, want => k * intoR k m want + intoR (k + 1) m want
theorem intoR_small : ∀ m : Nat, m < 10 → ∀ k : Nat, k < 11 → k + m < 11 → ∀ x : Nat, x < 11 → 0 ≤ intoR (k : Int) m ((x : Int) - 1) ∧ intoR (k : Int) m ((x : Int) - 1) ≤ 1000000 := by decide +kernel
theorem intoR_count : ∀ n : Nat, n < 10 → intoR 0 n (-1) = countN n := by decide +kernel
theorem intoR_row : ∀ n : Nat, n < 10 → ∀ k : Nat, k < 10 → intoR 0 n (k : Int) = (rowN n).getD k 0 := by decide +kernel
theorem intoR_end : ∀ m : Nat, m < 10 → ∀ k : Nat, k < 10 → k + m < 10 → intoR (k : Int) m (-1) = endN k m := by decide +kernel
end Store11
