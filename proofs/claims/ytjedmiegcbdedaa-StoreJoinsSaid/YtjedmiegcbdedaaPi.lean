/- Plain laws: a division is told by which keys are equal. -/
import Derived.Test.YtjedmiegcbdedaaPg
namespace Store11
variable {α β : Type} [DecidableEq α] [DecidableEq β]

theorem fstI_appG (l : List α) (y x : α) (i : Int) (h : fstI l x = some i) : fstI (l ++ [y]) x = some i := by
  induction l generalizing i with
  | nil => cases h
  | cons z l ih =>
    rw [fstI] at h
    rw [List.cons_append, fstI]
    split
    · rename_i hz; rw [if_pos hz] at h; exact h
    · rename_i hz
      rw [if_neg hz] at h
      cases hf : fstI l x with
      | none => rw [hf] at h; cases h
      | some j => rw [ih j hf]; rw [hf] at h; exact h
theorem fstI_inj : ∀ (l : List α) (x y : α) (i : Int), fstI l x = some i → fstI l y = some i → x = y
  | [], _, _, _, h, _ => by cases h
  | z :: l, x, y, i, h, h' => by
    rw [fstI] at h h'
    have nn : ∀ (l : List α) (x : α) (j : Int), fstI l x = some j → 0 ≤ j := by
      intro l
      induction l with
      | nil => intro x j h; cases h
      | cons z l ih =>
        intro x j h
        rw [fstI] at h
        split at h
        · cases h; omega
        · cases hf : fstI l x with
          | none => rw [hf] at h; cases h
          | some k => rw [hf] at h; have := ih x k hf; simp at h; omega
    by_cases hx : x = z
    · by_cases hy : y = z
      · rw [hx, hy]
      · rw [if_pos hx] at h
        rw [if_neg hy] at h'
        cases hf : fstI l y with
        | none => rw [hf] at h'; cases h'
        | some k => rw [hf] at h'; have := nn l y k hf; simp at h h'; omega
    · by_cases hy : y = z
      · rw [if_neg hx] at h
        rw [if_pos hy] at h'
        cases hf : fstI l x with
        | none => rw [hf] at h; cases h
        | some k => rw [hf] at h; have := nn l x k hf; simp at h h'; omega
      · rw [if_neg hx] at h
        rw [if_neg hy] at h'
        cases hf : fstI l x with
        | none => rw [hf] at h; cases h
        | some k =>
          cases hf' : fstI l y with
          | none => rw [hf'] at h'; cases h'
          | some k' =>
            rw [hf] at h; rw [hf'] at h'
            simp at h h'
            exact fstI_inj l x y k hf (by rw [hf']; congr 1; omega)

/-- the division of f at 0, .., n-1 -/
def divF (n : Nat) (f : Nat → α) : List α × List Int := ((List.range n).map f).foldl divS ([], [])
theorem divF_succ (n : Nat) (f : Nat → α) : divF (n + 1) f = divS (divF n f) (f n) := by
  unfold divF; rw [List.range_succ, List.map_append, List.foldl_append]; rfl
theorem divL_divF (K : List α) (d : α) : divL K = (divF K.length (fun i => K.getD i d)).2 := by
  unfold divL divF
  have : (List.range K.length).map (fun i => K.getD i d) = K := by
    apply List.ext_getElem?
    intro i
    by_cases hi : i < K.length
    · simp [hi, List.getD]
    · simp [hi]
  rw [this]
theorem divF_len (n : Nat) (f : Nat → α) : (divF n f).2.length = n := by
  induction n with
  | zero => rfl
  | succ n ih => rw [divF_succ, divS]; split <;> simp [ih]
theorem divF_known (f : Nat → α) : ∀ n j, j < n → fstI (divF n f).1 (f j) = some ((divF n f).2.getD j 0)
  | n + 1, j, hj => by
    have hl := divF_len n f
    rw [divF_succ, divS]
    cases hf : fstI (divF n f).1 (f n) with
    | some i =>
      by_cases hjn : j = n
      · subst hjn; simp [hf, List.getD, List.getElem?_append_right, hl]
      · have := divF_known f n j (by omega)
        rw [this]; simp [List.getD, List.getElem?_append_left, hl, show j < n by omega]
    | none =>
      by_cases hjn : j = n
      · subst hjn; simp only; rw [fstI_snoc _ _ hf]; simp [List.getD, List.getElem?_append_right, hl]
      · have := divF_known f n j (by omega)
        simp only
        rw [fstI_appG _ _ _ _ this]; simp [List.getD, List.getElem?_append_left, hl, show j < n by omega]
/-- L1 -/
theorem divF_iff (f : Nat → α) (n i j : Nat) (hi : i < n) (hj : j < n) : (divF n f).2.getD i 0 = (divF n f).2.getD j 0 ↔ f i = f j := by
  have h1 := divF_known f n i hi
  have h2 := divF_known f n j hj
  constructor
  · intro h; rw [h] at h1; exact fstI_inj _ _ _ _ h1 h2
  · intro h; rw [h, h2] at h1; exact (Option.some.inj h1).symm
theorem fstI_same (I : List Nat) (f : Nat → α) (g : Nat → β) (n : Nat) (h : ∀ i ∈ I, f i = f n ↔ g i = g n) : fstI (I.map f) (f n) = fstI (I.map g) (g n) := by
  induction I with
  | nil => rfl
  | cons i I ih =>
    simp only [List.map_cons, fstI]
    have hi := h i (by simp)
    by_cases hf : f n = f i
    · rw [if_pos hf, if_pos (hi.1 hf.symm).symm]
    · rw [if_neg hf, if_neg (fun e => hf (hi.2 e.symm).symm), ih (fun j hj => h j (by simp [hj]))]
theorem divF_shape (f : Nat → α) (g : Nat → β) (N : Nat) (h : ∀ i j, i < N → j < N → (f i = f j ↔ g i = g j)) : ∀ n, n ≤ N → ∃ I : List Nat, (∀ i ∈ I, i < n) ∧ (divF n f).1 = I.map f ∧ (divF n g).1 = I.map g ∧ (divF n f).2 = (divF n g).2
  | 0, _ => ⟨[], by simp, rfl, rfl, rfl⟩
  | n + 1, hn => by
    obtain ⟨I, h1, h2, h3, h4⟩ := divF_shape f g N h n (by omega)
    have hs := fstI_same I f g n (fun i hi => h i n (by have := h1 i hi; omega) (by omega))
    rw [divF_succ, divF_succ, divS, divS, h2, h3, ← hs]
    cases hf : fstI (I.map f) (f n) with
    | some i => exact ⟨I, fun i hi => by have := h1 i hi; omega, rfl, rfl, by simp [h4]⟩
    | none =>
      refine ⟨I ++ [n], fun i hi => ?_, by simp, by simp, by simp [h4]⟩
      rcases List.mem_append.1 hi with hi | hi
      · have := h1 i hi; omega
      · simp at hi; omega
/-- L2 -/
theorem divF_congr (f : Nat → α) (g : Nat → β) (n : Nat) (h : ∀ i j, i < n → j < n → (f i = f j ↔ g i = g j)) : (divF n f).2 = (divF n g).2 :=
  let ⟨_, _, _, _, h4⟩ := divF_shape f g n h n (Nat.le_refl _)
  h4
theorem divL_congr (K : List α) (K' : List β) (d : α) (d' : β) (hl : K.length = K'.length) (h : ∀ i j, i < K.length → j < K.length → (K.getD i d = K.getD j d ↔ K'.getD i d' = K'.getD j d')) : divL K = divL K' := by
  rw [divL_divF K d, divL_divF K' d', ← hl]
  exact divF_congr _ _ _ h
theorem divL_iff (K : List α) (d : α) (i j : Nat) (hi : i < K.length) (hj : j < K.length) : (divL K).getD i 0 = (divL K).getD j 0 ↔ K.getD i d = K.getD j d := by
  rw [divL_divF K d]; exact divF_iff _ _ i j hi hj
theorem divL_len (K : List α) (d : α) : (divL K).length = K.length := by rw [divL_divF K d, divF_len]

/-- L3 -/
theorem fst_range : ∀ (x : Nat) (r : Int), 0 ≤ r → fstI ((List.range x).map (fun i : Nat => (i : Int))) r = if r < x then some r else none
  | 0, r, h => by rw [if_neg (by omega)]; rfl
  | x + 1, r, h => by
    rw [List.range_succ, List.map_append]
    have ih := fst_range x r h
    by_cases hr : r < x
    · rw [if_pos hr] at ih
      rw [if_pos (by omega)]
      exact fstI_appG _ _ _ _ ih
    · rw [if_neg hr] at ih
      rw [show ([x].map (fun i : Nat => (i : Int))) = [(x : Int)] from rfl]
      by_cases hx : r = x
      · subst hx
        rw [if_pos (by omega), fstI_snoc _ _ ih]; simp
      · rw [if_neg (by omega)]
        have : ∀ (l : List Int) (y r : Int), fstI l r = none → r ≠ y → fstI (l ++ [y]) r = none := by
          intro l y r hl hry
          induction l with
          | nil => simp [fstI, hry]
          | cons z l ih2 =>
            rw [fstI] at hl
            split at hl
            · cases hl
            · rename_i hz
              rw [List.cons_append, fstI, if_neg hz]
              have : fstI l r = none := by cases hf : fstI l r with
                | none => rfl
                | some j => rw [hf] at hl; cases hl
              rw [ih2 this]; rfl
        exact this _ _ _ ih hx
theorem foldl_id : ∀ (l : List Int) (x : Nat) (out : List Int), chkG x l = 0 → (l.foldl divS ((List.range x).map (fun i : Nat => (i : Int)), out)).2 = out ++ l
  | [], _, _, _ => by simp
  | r :: l, x, out, h => by
    rw [chkG] at h
    split at h
    · omega
    · split at h
      · omega
      · rw [List.foldl_cons]
        split at h
        · rename_i h1 h2 h3
          have hd : divS ((List.range x).map (fun i : Nat => (i : Int)), out) r = ((List.range (x + 1)).map (fun i : Nat => (i : Int)), out ++ [r]) := by
            rw [divS]; simp only; rw [fst_range x r (by omega), if_neg (by omega)]; simp [List.range_succ, h3]
          rw [hd, foldl_id l (x + 1) (out ++ [r]) h]; simp
        · have hd : divS ((List.range x).map (fun i : Nat => (i : Int)), out) r = ((List.range x).map (fun i : Nat => (i : Int)), out ++ [r]) := by
            rw [divS]; simp only; rw [fst_range x r (by omega), if_pos (by omega)]
          rw [hd, foldl_id l x (out ++ [r]) h]; simp
theorem divL_id {l : List Int} (h : chkL l = 0) : divL l = l := by
  have h2 : chkG ((0 : Nat) : Int) l = 0 := by
    unfold chkL at h; split at h
    · exact absurd h (by assumption)
    · exact h
  have := foldl_id l 0 [] h2
  simpa [divL] using this
end Store11
