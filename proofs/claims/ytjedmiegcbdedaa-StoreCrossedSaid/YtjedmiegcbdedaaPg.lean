/- Plain laws of the references of chapter 11: divisions, counts. -/
import Derived.Test.YtjedmiegcbdedaaPb
import Derived.Test.YtjedmiegcbdedaaPa
namespace Store11
/-- how many rooms -/
def manyL : List Int → Int
  | [] => 0
  | l => l.foldl (fun m x => max m (x + 1)) 0
theorem manyL_def (l : List Int) : manyL l = l.foldl (fun m x => max m (x + 1)) 0 := by cases l <;> rfl
theorem manyL_snoc (l : List Int) (x : Int) : manyL (l ++ [x]) = max (manyL l) (x + 1) := by
  rw [manyL_def, manyL_def, List.foldl_append]; rfl
theorem manyL_nonneg (l : List Int) : 0 ≤ manyL l := by
  rw [manyL_def]
  have : ∀ (l : List Int) (m : Int), m ≤ l.foldl (fun m x => max m (x + 1)) m := by
    intro l
    induction l with
    | nil => intro m; simp
    | cons y l ih => intro m; have := ih (max m (y + 1)); simp only [List.foldl_cons]; omega
  exact this l 0
theorem manyL_take (l : List Int) (k : Nat) (h : k < l.length) : manyL (l.take (k + 1)) = max (manyL (l.take k)) (l.getD k 0 + 1) := by
  rw [take_succ_getD l k h, manyL_snoc]
theorem manyL_le (l : List Int) (B : Int) (hB : 0 ≤ B) (h : ∀ k, k < l.length → l.getD k 0 < B) : manyL l ≤ B := by
  have : ∀ k, k ≤ l.length → manyL (l.take k) ≤ B := by
    intro k
    induction k with
    | zero => intro _; simpa [manyL] using hB
    | succ k ih => intro hk; have h1 := ih (by omega); have h2 := h k (by omega); rw [manyL_take l k (by omega)]; omega
  have := this l.length (Nat.le_refl _)
  rwa [List.take_length] at this

/-- the state behind k labels -/
def dsK (l : List Int) (k : Nat) : List Int × List Int := (l.take k).foldl divS ([], [])
theorem dsK_succ (l : List Int) (k : Nat) (h : k < l.length) : dsK l (k + 1) = divS (dsK l k) (l.getD k 0) := by
  unfold dsK; rw [take_succ_getD l k h, List.foldl_append]; rfl
theorem divS_len2 (st : List Int × List Int) (x : Int) : (divS st x).2.length = st.2.length + 1 := by unfold divS; split <;> simp
theorem dsK_len (l : List Int) : ∀ k, k ≤ l.length → (dsK l k).2.length = k
  | 0, _ => by simp [dsK]
  | k + 1, h => by rw [dsK_succ l k (by omega), divS_len2, dsK_len l k (by omega)]
theorem fstI_bound : ∀ (l : List Int) (x : Int) (i : Int), fstI l x = some i → 0 ≤ i ∧ i < l.length
  | [], _, _, h => by cases h
  | y :: l, x, i, h => by
    rw [fstI] at h
    split at h
    · cases h; simp
    · cases hf : fstI l x with
      | none => rw [hf] at h; cases h
      | some j =>
        rw [hf] at h
        have := fstI_bound l x j hf
        simp at h
        simp; omega
theorem fstI_app (l : List Int) (y x : Int) (i : Int) (h : fstI l x = some i) : fstI (l ++ [y]) x = some i := by
  induction l generalizing i with
  | nil => cases h
  | cons z l ih =>
    rw [fstI] at h
    rw [List.cons_append, fstI]
    split
    · rename_i hz; rw [if_pos hz] at h; exact h
    · rename_i hz
      rw [if_neg hz] at h
      cases hf : fstI l x with
      | none => rw [hf] at h; cases h
      | some j => rw [ih j hf]; rw [hf] at h; exact h
theorem fstI_new (l : List Int) (x : Int) (h : fstI l x = none) : fstI (l ++ [x]) x = some (l.length : Int) := by
  rw [fstI_snoc x l h]; simp
/-- what is known of the state: rooms, keys -/
structure DsOk (l : List Int) (k : Nat) (st : List Int × List Int) : Prop where
  len : st.2.length = k
  many : manyL st.2 = st.1.length
  known : ∀ j, j < k → fstI st.1 (l.getD j 0) = some (st.2.getD j 0)
  back : ∀ x i, fstI st.1 x = some i → ∃ j, j < k ∧ l.getD j 0 = x
theorem dsK_ok (l : List Int) : ∀ k, k ≤ l.length → DsOk l k (dsK l k)
  | 0, _ => ⟨rfl, rfl, fun j h => by omega, fun x i h => by cases h⟩
  | k + 1, hk => by
    have ih := dsK_ok l k (by omega)
    have hs := dsK_succ l k (by omega)
    cases hf : fstI (dsK l k).1 (l.getD k 0) with
    | some i =>
      have hd : dsK l (k + 1) = ((dsK l k).1, (dsK l k).2 ++ [i]) := by rw [hs, divS, hf]
      have hi := fstI_bound _ _ _ hf
      rw [hd]
      refine ⟨by simp [ih.len], by rw [manyL_snoc, ih.many]; simp; omega, fun j hj => ?_, fun x i' h => ?_⟩
      · by_cases hjk : j = k
        · subst hjk; rw [hf]; simp [List.getD, List.getElem?_append_right, ih.len]
        · rw [ih.known j (by omega)]; simp [List.getD, List.getElem?_append_left, ih.len, show j < k by omega]
      · obtain ⟨j, h1, h2⟩ := ih.back x i' h
        exact ⟨j, by omega, h2⟩
    | none =>
      have hd : dsK l (k + 1) = ((dsK l k).1 ++ [l.getD k 0], (dsK l k).2 ++ [((dsK l k).1.length : Int)]) := by rw [hs, divS, hf]
      rw [hd]
      refine ⟨by simp [ih.len], by rw [manyL_snoc, ih.many]; simp; omega, fun j hj => ?_, fun x i' h => ?_⟩
      · by_cases hjk : j = k
        · subst hjk; rw [fstI_new _ _ hf]; simp [List.getD, List.getElem?_append_right, ih.len]
        · rw [fstI_app _ _ _ _ (ih.known j (by omega))]; simp [List.getD, List.getElem?_append_left, ih.len, show j < k by omega]
      · simp only at h
        rw [fstI_snoc _ _ hf] at h
        dsimp only at h
        split at h
        · rename_i he; exact ⟨k, by omega, he.symm⟩
        · obtain ⟨j, h1, h2⟩ := ih.back x i' h
          exact ⟨j, by omega, h2⟩
theorem dsK_bound (l : List Int) (k : Nat) (hk : k ≤ l.length) (j : Nat) (hj : j < k) : 0 ≤ (dsK l k).2.getD j 0 ∧ (dsK l k).2.getD j 0 < (dsK l k).1.length := fstI_bound _ _ _ ((dsK_ok l k hk).known j hj)
theorem dsK_keys (l : List Int) : ∀ k, k ≤ l.length → (dsK l k).1.length ≤ k
  | 0, _ => by simp [dsK]
  | k + 1, h => by
    have ih := dsK_keys l k (by omega)
    rw [dsK_succ l k (by omega), divS]
    split
    · simp; omega
    · simp; omega
theorem dsK_all (l : List Int) : (dsK l l.length).2 = divL l := by unfold dsK divL; rw [List.take_length]
/-- the next room -/
def nxt (l : List Int) (k : Nat) : Int := match fstI (dsK l k).1 (l.getD k 0) with | some i => i | none => ((dsK l k).1.length : Int)
theorem dsK_next (l : List Int) (k : Nat) (h : k < l.length) : (dsK l (k + 1)).2 = (dsK l k).2 ++ [nxt l k] := by
  rw [dsK_succ l k h, divS, nxt]
  cases fstI (dsK l k).1 (l.getD k 0) <;> rfl

/-- how many divisions go on -/
def intoR (k : Int) : Nat → Int → Int
  | 0, want => if want < 0 ∨ k = want then 1 else 0
  | m + 1, want => k * intoR k m want + intoR (k + 1) m want
theorem intoR_small : ∀ m : Nat, m < 10 → ∀ k : Nat, k < 11 → k + m < 11 → ∀ x : Nat, x < 11 → 0 ≤ intoR (k : Int) m ((x : Int) - 1) ∧ intoR (k : Int) m ((x : Int) - 1) ≤ 1000000 := by decide +kernel
theorem intoR_count : ∀ n : Nat, n < 10 → intoR 0 n (-1) = countN n := by decide +kernel
theorem intoR_row : ∀ n : Nat, n < 10 → ∀ k : Nat, k < 10 → intoR 0 n (k : Int) = (rowN n).getD k 0 := by decide +kernel
theorem intoR_end : ∀ m : Nat, m < 10 → ∀ k : Nat, k < 10 → k + m < 10 → intoR (k : Int) m (-1) = endN k m := by decide +kernel
end Store11
namespace Store11
theorem endN_rec : ∀ m : Nat, m < 9 → ∀ k : Nat, k < 9 → k + m < 9 → endN k (m + 1) = (k : Int) * endN k m + endN (k + 1) m := by decide +kernel
theorem endN_zero : ∀ n : Nat, n < 10 → endN 0 n = countN n := by decide +kernel
theorem min_room {num each : Int} {k ρ : Nat} (he : 0 < each) (hρ : ρ ≤ k) (h1 : (ρ : Int) * each ≤ num) (h2 : ρ < k → num < (ρ : Int) * each + each) : min (num / each) (k : Int) = ρ := by
  have h3 : (ρ : Int) ≤ num / each := (Int.le_ediv_iff_mul_le he).2 h1
  rcases Nat.lt_or_ge ρ k with h | h
  · have h4 : num / each < (ρ : Int) + 1 := (Int.ediv_lt_iff_lt_mul he).2 (by rw [Int.add_mul, Int.one_mul]; exact h2 h)
    omega
  · omega
end Store11
namespace Store11
variable {α β : Type} [DecidableEq α] [DecidableEq β]

theorem fstI_appG (l : List α) (y x : α) (i : Int) (h : fstI l x = some i) : fstI (l ++ [y]) x = some i := by
  induction l generalizing i with
  | nil => cases h
  | cons z l ih =>
    rw [fstI] at h
    rw [List.cons_append, fstI]
    split
    · rename_i hz; rw [if_pos hz] at h; exact h
    · rename_i hz
      rw [if_neg hz] at h
      cases hf : fstI l x with
      | none => rw [hf] at h; cases h
      | some j => rw [ih j hf]; rw [hf] at h; exact h
theorem fstI_inj : ∀ (l : List α) (x y : α) (i : Int), fstI l x = some i → fstI l y = some i → x = y
  | [], _, _, _, h, _ => by cases h
  | z :: l, x, y, i, h, h' => by
    rw [fstI] at h h'
    have nn : ∀ (l : List α) (x : α) (j : Int), fstI l x = some j → 0 ≤ j := by
      intro l
      induction l with
      | nil => intro x j h; cases h
      | cons z l ih =>
        intro x j h
        rw [fstI] at h
        split at h
        · cases h; omega
        · cases hf : fstI l x with
          | none => rw [hf] at h; cases h
          | some k => rw [hf] at h; have := ih x k hf; simp at h; omega
    by_cases hx : x = z
    · by_cases hy : y = z
      · rw [hx, hy]
      · rw [if_pos hx] at h
        rw [if_neg hy] at h'
        cases hf : fstI l y with
        | none => rw [hf] at h'; cases h'
        | some k => rw [hf] at h'; have := nn l y k hf; simp at h h'; omega
    · by_cases hy : y = z
      · rw [if_neg hx] at h
        rw [if_pos hy] at h'
        cases hf : fstI l x with
        | none => rw [hf] at h; cases h
        | some k => rw [hf] at h; have := nn l x k hf; simp at h h'; omega
      · rw [if_neg hx] at h
        rw [if_neg hy] at h'
        cases hf : fstI l x with
        | none => rw [hf] at h; cases h
        | some k =>
          cases hf' : fstI l y with
          | none => rw [hf'] at h'; cases h'
          | some k' =>
            rw [hf] at h; rw [hf'] at h'
            simp at h h'
            exact fstI_inj l x y k hf (by rw [hf']; congr 1; omega)

/-- the division of f at 0, .., n-1 -/
def divF (n : Nat) (f : Nat → α) : List α × List Int := ((List.range n).map f).foldl divS ([], [])
theorem divF_succ (n : Nat) (f : Nat → α) : divF (n + 1) f = divS (divF n f) (f n) := by
  unfold divF; rw [List.range_succ, List.map_append, List.foldl_append]; rfl
theorem divL_divF (K : List α) (d : α) : divL K = (divF K.length (fun i => K.getD i d)).2 := by
  unfold divL divF
  have : (List.range K.length).map (fun i => K.getD i d) = K := by
    apply List.ext_getElem?
    intro i
    by_cases hi : i < K.length
    · simp [hi, List.getD]
    · simp [hi]
  rw [this]
theorem divF_len (n : Nat) (f : Nat → α) : (divF n f).2.length = n := by
  induction n with
  | zero => rfl
  | succ n ih => rw [divF_succ, divS]; split <;> simp [ih]
theorem divF_known (f : Nat → α) : ∀ n j, j < n → fstI (divF n f).1 (f j) = some ((divF n f).2.getD j 0)
  | n + 1, j, hj => by
    have hl := divF_len n f
    rw [divF_succ, divS]
    cases hf : fstI (divF n f).1 (f n) with
    | some i =>
      by_cases hjn : j = n
      · subst hjn; simp [hf, List.getD, List.getElem?_append_right, hl]
      · have := divF_known f n j (by omega)
        rw [this]; simp [List.getD, List.getElem?_append_left, hl, show j < n by omega]
    | none =>
      by_cases hjn : j = n
      · subst hjn; simp only; rw [fstI_snoc _ _ hf]; simp [List.getD, List.getElem?_append_right, hl]
      · have := divF_known f n j (by omega)
        simp only
        rw [fstI_appG _ _ _ _ this]; simp [List.getD, List.getElem?_append_left, hl, show j < n by omega]
/-- L1 -/
theorem divF_iff (f : Nat → α) (n i j : Nat) (hi : i < n) (hj : j < n) : (divF n f).2.getD i 0 = (divF n f).2.getD j 0 ↔ f i = f j := by
  have h1 := divF_known f n i hi
  have h2 := divF_known f n j hj
  constructor
  · intro h; rw [h] at h1; exact fstI_inj _ _ _ _ h1 h2
  · intro h; rw [h, h2] at h1; exact (Option.some.inj h1).symm
theorem fstI_same (I : List Nat) (f : Nat → α) (g : Nat → β) (n : Nat) (h : ∀ i ∈ I, f i = f n ↔ g i = g n) : fstI (I.map f) (f n) = fstI (I.map g) (g n) := by
  induction I with
  | nil => rfl
  | cons i I ih =>
    simp only [List.map_cons, fstI]
    have hi := h i (by simp)
    by_cases hf : f n = f i
    · rw [if_pos hf, if_pos (hi.1 hf.symm).symm]
    · rw [if_neg hf, if_neg (fun e => hf (hi.2 e.symm).symm), ih (fun j hj => h j (by simp [hj]))]
theorem divF_shape (f : Nat → α) (g : Nat → β) (N : Nat) (h : ∀ i j, i < N → j < N → (f i = f j ↔ g i = g j)) : ∀ n, n ≤ N → ∃ I : List Nat, (∀ i ∈ I, i < n) ∧ (divF n f).1 = I.map f ∧ (divF n g).1 = I.map g ∧ (divF n f).2 = (divF n g).2
  | 0, _ => ⟨[], by simp, rfl, rfl, rfl⟩
  | n + 1, hn => by
    obtain ⟨I, h1, h2, h3, h4⟩ := divF_shape f g N h n (by omega)
    have hs := fstI_same I f g n (fun i hi => h i n (by have := h1 i hi; omega) (by omega))
    rw [divF_succ, divF_succ, divS, divS, h2, h3, ← hs]
    cases hf : fstI (I.map f) (f n) with
    | some i => exact ⟨I, fun i hi => by have := h1 i hi; omega, rfl, rfl, by simp [h4]⟩
    | none =>
      refine ⟨I ++ [n], fun i hi => ?_, by simp, by simp, by simp [h4]⟩
      rcases List.mem_append.1 hi with hi | hi
      · have := h1 i hi; omega
      · simp at hi; omega
/-- L2 -/
theorem divF_congr (f : Nat → α) (g : Nat → β) (n : Nat) (h : ∀ i j, i < n → j < n → (f i = f j ↔ g i = g j)) : (divF n f).2 = (divF n g).2 :=
  let ⟨_, _, _, _, h4⟩ := divF_shape f g n h n (Nat.le_refl _)
  h4
theorem divL_congr (K : List α) (K' : List β) (d : α) (d' : β) (hl : K.length = K'.length) (h : ∀ i j, i < K.length → j < K.length → (K.getD i d = K.getD j d ↔ K'.getD i d' = K'.getD j d')) : divL K = divL K' := by
  rw [divL_divF K d, divL_divF K' d', ← hl]
  exact divF_congr _ _ _ h
theorem divL_iff (K : List α) (d : α) (i j : Nat) (hi : i < K.length) (hj : j < K.length) : (divL K).getD i 0 = (divL K).getD j 0 ↔ K.getD i d = K.getD j d := by
  rw [divL_divF K d]; exact divF_iff _ _ i j hi hj
theorem divL_len (K : List α) (d : α) : (divL K).length = K.length := by rw [divL_divF K d, divF_len]

/-- L3 -/
theorem fst_range : ∀ (x : Nat) (r : Int), 0 ≤ r → fstI ((List.range x).map (fun i : Nat => (i : Int))) r = if r < x then some r else none
  | 0, r, h => by rw [if_neg (by omega)]; rfl
  | x + 1, r, h => by
    rw [List.range_succ, List.map_append]
    have ih := fst_range x r h
    by_cases hr : r < x
    · rw [if_pos hr] at ih
      rw [if_pos (by omega)]
      exact fstI_appG _ _ _ _ ih
    · rw [if_neg hr] at ih
      rw [show ([x].map (fun i : Nat => (i : Int))) = [(x : Int)] from rfl]
      by_cases hx : r = x
      · subst hx
        rw [if_pos (by omega), fstI_snoc _ _ ih]; simp
      · rw [if_neg (by omega)]
        have : ∀ (l : List Int) (y r : Int), fstI l r = none → r ≠ y → fstI (l ++ [y]) r = none := by
          intro l y r hl hry
          induction l with
          | nil => simp [fstI, hry]
          | cons z l ih2 =>
            rw [fstI] at hl
            split at hl
            · cases hl
            · rename_i hz
              rw [List.cons_append, fstI, if_neg hz]
              have : fstI l r = none := by cases hf : fstI l r with
                | none => rfl
                | some j => rw [hf] at hl; cases hl
              rw [ih2 this]; rfl
        exact this _ _ _ ih hx
theorem foldl_id : ∀ (l : List Int) (x : Nat) (out : List Int), chkG x l = 0 → (l.foldl divS ((List.range x).map (fun i : Nat => (i : Int)), out)).2 = out ++ l
  | [], _, _, _ => by simp
  | r :: l, x, out, h => by
    rw [chkG] at h
    split at h
    · omega
    · split at h
      · omega
      · rw [List.foldl_cons]
        split at h
        · rename_i h1 h2 h3
          have hd : divS ((List.range x).map (fun i : Nat => (i : Int)), out) r = ((List.range (x + 1)).map (fun i : Nat => (i : Int)), out ++ [r]) := by
            rw [divS]; simp only; rw [fst_range x r (by omega), if_neg (by omega)]; simp [List.range_succ, h3]
          rw [hd, foldl_id l (x + 1) (out ++ [r]) h]; simp
        · have hd : divS ((List.range x).map (fun i : Nat => (i : Int)), out) r = ((List.range x).map (fun i : Nat => (i : Int)), out ++ [r]) := by
            rw [divS]; simp only; rw [fst_range x r (by omega), if_pos (by omega)]
          rw [hd, foldl_id l x (out ++ [r]) h]; simp
theorem divL_id {l : List Int} (h : chkL l = 0) : divL l = l := by
  have h2 : chkG ((0 : Nat) : Int) l = 0 := by
    unfold chkL at h; split at h
    · exact absurd h (by assumption)
    · exact h
  have := foldl_id l 0 [] h2
  simpa [divL] using this
end Store11
namespace Store11

theorem both_parts {a b : List Int} (h : bothE a b = 0) : chkL a = 0 ∧ chkL b = 0 ∧ a.length = b.length := by
  unfold bothE at h
  split at h
  · omega
  · split at h
    · omega
    · split at h
      · omega
      · omega
theorem finer_true {a b : List Int} (h : bothE a b = 0) (hp : ∀ i k, i < a.length → k < a.length → a.getD i 0 = a.getD k 0 → b.getD i 0 = b.getD k 0) : finerB a b = true := by
  obtain ⟨h1, h2, h3⟩ := both_parts h
  have hz := zip2_len a b h3
  have : meetR a b = a := by
    rw [meetR, divL_congr (zip2 a b) a [] 0 hz (fun i j hi hj => ?_), divL_id h1]
    rw [hz] at hi hj
    rw [zip2_get a b i hi (by omega), zip2_get a b j hj (by omega)]
    constructor
    · intro h; simp at h; exact h.1
    · intro h; rw [h, hp i j hi hj h]
  rw [finerB, if_pos h, this]; simp
theorem finer_false {a b : List Int} (h : bothE a b = 0) (i k : Nat) (hi : i < a.length) (hk : k < a.length) (h4 : a.getD i 0 = a.getD k 0) (h5 : b.getD i 0 ≠ b.getD k 0) : finerB a b = false := by
  obtain ⟨h1, h2, h3⟩ := both_parts h
  have hz := zip2_len a b h3
  rw [finerB, if_pos h]
  have : meetR a b ≠ a := by
    intro e
    have := divL_iff (zip2 a b) [] i k (by omega) (by omega)
    rw [← meetR, e] at this
    have := this.1 h4
    rw [zip2_get a b i hi (by omega), zip2_get a b k hk (by omega)] at this
    simp at this
    exact h5 this.2
  simpa using this
/-- labels of pairs -/
def lab2 (a b : List Int) : List Int := (zip2 a b).map fun p => p.getD 0 0 * 9 + p.getD 1 0
theorem lab2_len (a b : List Int) (h : a.length = b.length) : (lab2 a b).length = a.length := by simp [lab2, zip2_len a b h]
theorem lab2_get (a b : List Int) (h : a.length = b.length) (i : Nat) (hi : i < a.length) : (lab2 a b).getD i 0 = a.getD i 0 * 9 + b.getD i 0 := by
  have h1 : i < (zip2 a b).length := by rw [zip2_len a b h]; exact hi
  have h2 := zip2_get a b i hi (by omega)
  rw [List.getD, List.getElem?_eq_getElem h1] at h2
  simp only [Option.getD_some] at h2
  rw [lab2, List.getD, List.getElem?_map, List.getElem?_eq_getElem h1, h2]; rfl
theorem meet_lab {a b : List Int} (h : bothE a b = 0) : divL (lab2 a b) = meetR a b := by
  obtain ⟨h1, h2, h3⟩ := both_parts h
  have hz := zip2_len a b h3
  rw [meetR]
  refine divL_congr _ _ 0 [] (by rw [lab2_len a b h3, hz]) (fun i j hi hj => ?_)
  rw [lab2_len a b h3] at hi hj
  rw [lab2_get a b h3 i hi, lab2_get a b h3 j hj, zip2_get a b i hi (by omega), zip2_get a b j hj (by omega)]
  have hlen : b.length ≤ 9 := by
    unfold chkL at h2; split at h2
    · omega
    · rename_i hs; unfold sizeE at hs; split at hs <;> (try split at hs) <;> omega
  have b1 := chkL_bound h2 i (by omega)
  have b2 := chkL_bound h2 j (by omega)
  constructor
  · intro h; rw [show a.getD i 0 = a.getD j 0 by omega, show b.getD i 0 = b.getD j 0 by omega]
  · intro h; simp at h; rw [List.getD, List.getD, List.getD, List.getD, h.1, h.2]

/-! ### Join -/
def Edge (a b : List Int) (i k : Nat) : Prop := a.getD i 0 = a.getD k 0 ∨ b.getD i 0 = b.getD k 0
instance (a b : List Int) (i k : Nat) : Decidable (Edge a b i k) := inferInstanceAs (Decidable (_ ∨ _))
theorem Edge.symm {a b : List Int} {i k : Nat} (h : Edge a b i k) : Edge a b k i := h.imp Eq.symm Eq.symm
structure Nine (a b : List Int) (n : Nat) : Prop where
  a9 : ∀ k, k < n → 0 ≤ a.getD k 0 ∧ a.getD k 0 < 9
  b9 : ∀ k, k < n → 0 ≤ b.getD k 0 ∧ b.getD k 0 < 9
theorem rt_keep (a b : List Int) (k x y : Nat) (h : rtK a b k x = rtK a b k y) : rtK a b (k + 1) x = rtK a b (k + 1) y := by
  show linkR _ _ _ x = linkR _ _ _ y
  unfold linkR; rw [h]
theorem rt_link (a b : List Int) : ∀ k i, i < k → rtK a b k (a.getD i 0).toNat = rtK a b k (9 + (b.getD i 0).toNat)
  | k + 1, i, hi => by
    by_cases hik : i = k
    · subst hik
      show linkR _ _ _ _ = linkR _ _ _ _
      unfold linkR
      rw [if_pos rfl]
      split <;> rfl
    · exact rt_keep a b k _ _ (rt_link a b k i (by omega))
/-- the root of a box's room -/
def RT (a b : List Int) (n i : Nat) : Nat := rtK a b n (a.getD i 0).toNat
theorem RT_edge {a b : List Int} {n i k : Nat} (hi : i < n) (hk : k < n) (h : Edge a b i k) : RT a b n i = RT a b n k := by
  unfold RT
  rcases h with h | h
  · rw [h]
  · rw [rt_link a b n i hi, rt_link a b n k hk, h]
def NP (a b : List Int) (n : Nat) (P : Nat → Prop) (x : Nat) : Prop := ∃ i, i < n ∧ P i ∧ (x = (a.getD i 0).toNat ∨ x = 9 + (b.getD i 0).toNat)
theorem NP_rt {a b : List Int} {n : Nat} (h9 : Nine a b n) (P : Nat → Prop) (hP : ∀ i k, i < n → k < n → P i → Edge a b i k → P k) : ∀ k, k ≤ n → ∀ x y, rtK a b k x = rtK a b k y → (NP a b n P x ↔ NP a b n P y)
  | 0, _, x, y, h => by have : x = y := h; rw [this]
  | k + 1, hk, x, y, h => by
    have ih := NP_rt h9 P hP k (by omega)
    have hlink : NP a b n P (a.getD k 0).toNat ↔ NP a b n P (9 + (b.getD k 0).toNat) := by
      have ka := h9.a9 k (by omega)
      constructor
      · rintro ⟨i, h1, h2, h3⟩
        have ia := h9.a9 i h1
        have ib := h9.b9 i h1
        rcases h3 with h3 | h3
        · exact ⟨k, by omega, hP i k h1 (by omega) h2 (.inl (by omega)), .inr rfl⟩
        · omega
      · rintro ⟨i, h1, h2, h3⟩
        have ia := h9.a9 i h1
        have ib := h9.b9 i h1
        have kb := h9.b9 k (by omega)
        rcases h3 with h3 | h3
        · omega
        · exact ⟨k, by omega, hP i k h1 (by omega) h2 (.inr (by omega)), .inl rfl⟩
    change linkR _ _ _ x = linkR _ _ _ y at h
    unfold linkR at h
    by_cases hx : rtK a b k x = rtK a b k (a.getD k 0).toNat
    · by_cases hy : rtK a b k y = rtK a b k (a.getD k 0).toNat
      · exact ih x y (by rw [hx, hy])
      · rw [if_pos hx, if_neg hy] at h
        exact (ih _ _ hx).trans (hlink.trans (ih _ _ h))
    · by_cases hy : rtK a b k y = rtK a b k (a.getD k 0).toNat
      · rw [if_neg hx, if_pos hy] at h
        exact (ih _ _ h).trans (hlink.symm.trans (ih _ _ hy).symm)
      · rw [if_neg hx, if_neg hy] at h
        exact ih x y h
/-- what is closed under edges is closed under roots -/
theorem RT_closed {a b : List Int} {n : Nat} (h9 : Nine a b n) (P : Nat → Prop) (hP : ∀ i k, i < n → k < n → P i → Edge a b i k → P k) {i k : Nat} (hi : i < n) (hk : k < n) (h : RT a b n i = RT a b n k) (hp : P i) : P k := by
  have h1 : NP a b n P (a.getD i 0).toNat := ⟨i, hi, hp, .inl rfl⟩
  obtain ⟨j, hj, hpj, h2⟩ := (NP_rt h9 P hP n (Nat.le_refl _) _ _ h).1 h1
  have ka := h9.a9 k hk
  have ja := h9.a9 j hj
  have jb := h9.b9 j hj
  rcases h2 with h2 | h2
  · exact hP j k hj hk hpj (.inl (by omega))
  · omega
/-- the least box with a root -/
def lst (R : Nat → Nat) (v : Nat) : Nat → Nat
  | 0 => 0
  | i + 1 => if R (lst R v i) = v then lst R v i else i + 1
theorem lst_spec (R : Nat → Nat) (v : Nat) : ∀ i, lst R v i ≤ i ∧ ((R (lst R v i) = v ∧ ∀ j, R j = v → lst R v i ≤ j) ∨ (∀ j, j ≤ i → R j ≠ v))
  | 0 => by
    refine ⟨Nat.le_refl _, ?_⟩
    by_cases h : R 0 = v
    · exact .inl ⟨h, fun j _ => Nat.zero_le _⟩
    · exact .inr fun j hj => by rw [show j = 0 by omega]; exact h
  | i + 1 => by
    obtain ⟨h0, h⟩ := lst_spec R v i
    rw [lst]
    rcases h with ⟨h1, h2⟩ | h1
    · rw [if_pos h1]; exact ⟨by omega, .inl ⟨h1, h2⟩⟩
    · rw [if_neg (h1 _ h0)]
      refine ⟨Nat.le_refl _, ?_⟩
      by_cases h : R (i + 1) = v
      · refine .inl ⟨h, fun j hj => ?_⟩
        rcases Nat.lt_or_ge i j with h2 | h2
        · exact h2
        · exact absurd hj (h1 j h2)
      · refine .inr fun j hj => ?_
        rcases Nat.lt_or_ge i j with h2 | h2
        · rw [show j = i + 1 by omega]; exact h
        · exact h1 j h2
def TT (a b : List Int) (n i : Nat) : Nat := lst (RT a b n) (RT a b n i) i
theorem TT_spec (a b : List Int) (n i : Nat) : TT a b n i ≤ i ∧ RT a b n (TT a b n i) = RT a b n i ∧ ∀ j, RT a b n j = RT a b n i → TT a b n i ≤ j := by
  obtain ⟨h0, h⟩ := lst_spec (RT a b n) (RT a b n i) i
  rcases h with ⟨h1, h2⟩ | h1
  · exact ⟨h0, h1, h2⟩
  · exact absurd rfl (h1 i (Nat.le_refl _))
theorem TT_iff (a b : List Int) (n i k : Nat) : TT a b n i = TT a b n k ↔ RT a b n i = RT a b n k := by
  have h1 := TT_spec a b n i
  have h2 := TT_spec a b n k
  constructor
  · intro h; rw [← h1.2.1, h, h2.2.1]
  · intro h
    have := h1.2.2 (TT a b n k) (by rw [h2.2.1, h])
    have := h2.2.2 (TT a b n i) (by rw [h1.2.1, h])
    omega
/-- labels: each is a box of the same class, not behind -/
def LabOk (a b : List Int) (n : Nat) (L : Nat → Nat) : Prop := ∀ i, i < n → RT a b n (L i) = RT a b n i ∧ L i ≤ i
/-- in the midst of a round -/
structure Mid (a b : List Int) (n i k : Nat) (L0 L : Nat → Nat) : Prop where
  ok : LabOk a b n L
  le : ∀ j, j < n → L j ≤ L0 j
  done : ∀ i' k', i' < n → k' < n → Edge a b i' k' → (i' < i ∨ (i' = i ∧ k' < k)) → L i' ≤ L0 k'
theorem Mid.start {a b : List Int} {n : Nat} {L : Nat → Nat} (h : LabOk a b n L) : Mid a b n 0 0 L L := ⟨h, fun _ _ => Nat.le_refl _, fun i' k' _ _ _ h => by omega⟩
theorem Mid.row {a b : List Int} {n i : Nat} {L0 L : Nat → Nat} (h : Mid a b n i n L0 L) : Mid a b n (i + 1) 0 L0 L :=
  ⟨h.ok, h.le, fun i' k' h1 h2 h3 h4 => h.done i' k' h1 h2 h3 (by omega)⟩
theorem Mid.skip {a b : List Int} {n i k : Nat} {L0 L : Nat → Nat} (h : Mid a b n i k L0 L) (hE : ¬ Edge a b i k) : Mid a b n i (k + 1) L0 L :=
  ⟨h.ok, h.le, fun i' k' h1 h2 h3 h4 => by
    by_cases hik : i' = i ∧ k' = k
    · obtain ⟨rfl, rfl⟩ := hik; exact absurd h3 hE
    · exact h.done i' k' h1 h2 h3 (by omega)⟩
theorem Mid.step {a b : List Int} {n i k : Nat} {L0 L L' : Nat → Nat} (h : Mid a b n i k L0 L) (hi : i < n) (hk : k < n) (hE : Edge a b i k) (hL : ∀ j, L' j = if j = i then min (L i) (L k) else L j) : Mid a b n i (k + 1) L0 L' := by
  have o1 := h.ok i hi
  have o2 := h.ok k hk
  have hr := RT_edge hi hk hE
  refine ⟨fun j hj => ?_, fun j hj => ?_, fun i' k' h1 h2 h3 h4 => ?_⟩
  · rw [hL]
    split
    · rename_i hji
      subst hji
      refine ⟨?_, by omega⟩
      rcases Nat.le_total (L j) (L k) with h5 | h5
      · rw [Nat.min_eq_left h5]; exact o1.1
      · rw [Nat.min_eq_right h5, o2.1, hr]
    · exact h.ok j hj
  · rw [hL]
    split
    · rename_i hji; subst hji; have := h.le j hj; omega
    · exact h.le j hj
  · rw [hL]
    split
    · rename_i hii
      subst hii
      by_cases hkk : k' = k
      · subst hkk; have := h.le k' hk; omega
      · have := h.done i' k' h1 h2 h3 (by omega); omega
    · exact h.done i' k' h1 h2 h3 (by omega)
/-- how many labels are not the least ones yet -/
def dif (a b : List Int) (n : Nat) (L : Nat → Nat) : Nat := (List.range n).countP (fun i => decide (L i ≠ TT a b n i))
theorem countP_lt {p q : Nat → Bool} : ∀ (l : List Nat), (∀ x ∈ l, p x = true → q x = true) → (∃ x ∈ l, q x = true ∧ p x = false) → l.countP p < l.countP q
  | [], _, h => by obtain ⟨x, hx, _⟩ := h; cases hx
  | y :: l, h, hx => by
    have hle : l.countP p ≤ l.countP q := List.countP_mono_left fun x hx => h x (by simp [hx])
    rw [List.countP_cons, List.countP_cons]
    obtain ⟨x, hx, hq, hp⟩ := hx
    rcases List.mem_cons.1 hx with rfl | hx
    · rw [hq, hp]; simp; omega
    · have := countP_lt l (fun x hx => h x (by simp [hx])) ⟨x, hx, hq, hp⟩
      have hy := h y (by simp)
      cases hpy : p y with
      | true => rw [hy hpy]; omega
      | false => simp only [Bool.false_eq_true, if_false]; split <;> omega
theorem round_less {a b : List Int} {n : Nat} (h9 : Nine a b n) {L0 L : Nat → Nat} (h0 : LabOk a b n L0) (h : Mid a b n n 0 L0 L) : dif a b n L ≤ dif a b n L0 - 1 := by
  have hsub : ∀ i, i < n → L0 i = TT a b n i → L i = TT a b n i := fun i hi he => by
    have h1 := (TT_spec a b n i).2.2 (L i) (h.ok i hi).1
    have h2 := h.le i hi
    omega
  have hmono : dif a b n L ≤ dif a b n L0 := List.countP_mono_left fun i hi hp => by
    simp only [decide_eq_true_eq] at hp ⊢
    exact fun e => hp (hsub i (by simpa using hi) e)
  by_cases hall : ∀ i, i < n → L0 i = TT a b n i
  · have : dif a b n L = 0 := by
      unfold dif
      rw [List.countP_eq_zero]
      intro i hi
      simp only [decide_eq_true_eq, Decidable.not_not]
      exact hsub i (by simpa using hi) (hall i (by simpa using hi))
    omega
  · have ⟨i0, hi0, hne⟩ : ∃ i0, i0 < n ∧ L0 i0 ≠ TT a b n i0 := by
      refine Classical.byContradiction fun hc => hall fun i hi => Classical.byContradiction fun hn => hc ⟨i, hi, hn⟩
    obtain ⟨t1, t2, t3⟩ := TT_spec a b n i0
    have hm : TT a b n (TT a b n i0) = TT a b n i0 := (TT_iff a b n _ _).2 t2
    have hLm : L0 (TT a b n i0) = TT a b n i0 := by
      have h1 := (TT_spec a b n (TT a b n i0)).2.2 _ (h0 (TT a b n i0) (by omega)).1
      have h2 := (h0 (TT a b n i0) (by omega)).2
      omega
    have ⟨i, k, hi, hk, hPi, hE, hPk⟩ : ∃ i k, i < n ∧ k < n ∧ (TT a b n i = TT a b n i0 ∧ L0 i = TT a b n i0) ∧ Edge a b i k ∧ ¬ (TT a b n k = TT a b n i0 ∧ L0 k = TT a b n i0) := by
      refine Classical.byContradiction fun hc => hne ?_
      have := RT_closed h9 (fun j => TT a b n j = TT a b n i0 ∧ L0 j = TT a b n i0) (fun i k hi hk hp hE => Classical.byContradiction fun hn => hc ⟨i, k, hi, hk, hp, hE, hn⟩)
        (show TT a b n i0 < n by omega) hi0 t2 ⟨hm, hLm⟩
      exact this.2
    have hTk : TT a b n k = TT a b n i0 := by rw [← hPi.1]; exact (TT_iff a b n _ _).2 (RT_edge hi hk hE).symm
    have hLk : L k = TT a b n k := by
      have h1 := (TT_spec a b n k).2.2 (L k) (h.ok k hk).1
      have h2 := h.done k i hk hi hE.symm (by omega)
      rw [hPi.2] at h2
      omega
    have hlt : dif a b n L < dif a b n L0 := countP_lt _ (fun x hx hp => by
      simp only [decide_eq_true_eq] at hp ⊢
      exact fun e => hp (hsub x (by simpa using hx) e)) ⟨k, by simpa using hk, by simp only [decide_eq_true_eq]; exact fun e => hPk ⟨hTk, by rw [e, hTk]⟩, by simp [hLk]⟩
    omega
theorem dif_le (a b : List Int) (n : Nat) (L : Nat → Nat) : dif a b n L ≤ n := by
  have := List.countP_le_length (p := fun i => decide (L i ≠ TT a b n i)) (l := List.range n)
  simpa [dif] using this
theorem dif_zero {a b : List Int} {n : Nat} {L : Nat → Nat} (h : dif a b n L = 0) (i : Nat) (hi : i < n) : L i = TT a b n i := by
  unfold dif at h
  rw [List.countP_eq_zero] at h
  have := h i (by simpa using hi)
  simpa using this
/-- labels as a list -/
def Lof (l : List Int) (i : Nat) : Nat := (l.getD i 0).toNat
theorem Lof_set (l : List Int) (i : Nat) (v : Int) (hi : i < l.length) (j : Nat) : Lof (l.set i v) j = if j = i then v.toNat else Lof l j := by
  unfold Lof
  by_cases h : j = i
  · subst h; rw [if_pos rfl]; simp [List.getD, hi]
  · rw [if_neg h, List.getD, List.getElem?_set_ne (fun e => h e.symm), ← List.getD]
theorem join_labels {a b : List Int} (h : bothE a b = 0) (l : List Int) (hl : l.length = a.length) (hpos : ∀ i, i < a.length → 0 ≤ l.getD i 0) (hd : dif a b a.length (Lof l) = 0) : divL l = joinR a b := by
  rw [joinR]
  have hk : (joinK a b).length = a.length := by simp [joinK]
  refine divL_congr _ _ 0 0 (by rw [hl, hk]) (fun i j hi hj => ?_)
  rw [hl] at hi hj
  have e : ∀ i, i < a.length → (joinK a b).getD i 0 = ((RT a b a.length i : Nat) : Int) := fun i hi => by
    simp only [joinK, List.getD, List.getElem?_map, List.getElem?_eq_getElem hi, Option.map_some, Option.getD_some, RT]
  rw [e i hi, e j hj]
  have h1 := dif_zero hd i hi
  have h2 := dif_zero hd j hj
  have h3 := TT_iff a b a.length i j
  have p1 := hpos i hi
  have p2 := hpos j hj
  unfold Lof at h1 h2
  constructor
  · intro he; rw [he, h2] at h1; rw [h3.1 h1.symm]
  · intro he; have := h3.2 (by omega); omega
end Store11
