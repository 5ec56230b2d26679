/- Plain functions: crossings, and the division of gaps, as the reference has them. -/
import Derived.Test.YtjedmiegcbdedaaPv
import Derived.Test.YtjedmiegcbdedaaPg
namespace Store11
def stepR (x y : Int × Int) (st : Int × Int) : Int × Int :=
  (if x.1 < y.1 ∧ y.1 < x.2 ∧ x.2 < y.2 then st.1 + 1 else st.1, if x.1 < y.1 ∧ y.2 < x.2 then st.2 + 1 else st.2)
theorem stepR_X (x y st : Int × Int) (h : y.1 < y.2) : stepR x y st = stepX x y st := by
  unfold stepR stepX
  by_cases c1 : x.1 < y.1 ∧ y.1 < x.2
  · rw [if_pos c1]
    by_cases c2 : x.2 < y.2
    · rw [if_pos ⟨c1.1, c1.2, c2⟩, if_neg (by omega), if_pos c2]
    · rw [if_neg (by omega), if_neg c2]
      by_cases c3 : y.2 < x.2
      · rw [if_pos ⟨c1.1, c3⟩, if_pos c3]
      · rw [if_neg (by omega), if_neg c3]
  · rw [if_neg c1, if_neg (by omega), if_neg (by omega)]
theorem nx_lt (l : List Int) (i : Nat) : ∀ p ∈ nx l i, p.1 < p.2 := by
  intro p hp
  rcases nx_arc l i with ⟨j, h1, h2⟩ | ⟨h1, _⟩
  · rw [h1] at hp; simp at hp; subst hp; have := h2.1; simp only []; omega
  · rw [h1] at hp; cases hp
theorem arcU_lt (l : List Int) : ∀ i, ∀ p ∈ arcU l i, p.1 < p.2
  | 0, p, hp => by cases hp
  | i + 1, p, hp => by
    rw [arcU, List.mem_append] at hp
    rcases hp with hp | hp
    · exact arcU_lt l i p hp
    · exact nx_lt l i p hp
theorem arcP_lt (l : List Int) (k : Nat) (hk : k < (arcP l).length) : ((arcP l).getD k (0, 0)).1 < ((arcP l).getD k (0, 0)).2 := by
  have := arcU_lt l l.length ((arcP l).getD k (0, 0)) (by rw [List.getD, List.getElem?_eq_getElem hk]; exact List.getElem_mem hk)
  exact this
theorem arcU_hit {l : List Int} {i k : Nat} (h : Arc l i k) : arcU l (i + 1) = arcU l i ++ [((i : Int), (k : Int))] := by
  rw [arcU]
  rcases nx_arc l i with ⟨j, h1, h2⟩ | ⟨_, h2⟩
  · rw [h1, h.uniq h2]
  · exact absurd h (h2 k)
theorem arcU_miss {l : List Int} {i : Nat} (h : ∀ t, i < t → t < l.length → l.getD t 0 ≠ l.getD i 0) : arcU l (i + 1) = arcU l i := by
  rw [arcU]
  rcases nx_arc l i with ⟨j, _, h2⟩ | ⟨h1, _⟩
  · exact absurd h2.2.2.1.symm (h j h2.1 h2.2.1)
  · rw [h1, List.append_nil]
/-- how many of a room are from one box to another one -/
def amg (l : List Int) (r : Int) (f t : Nat) : Int := cnt l r t - cnt l r f
/-- are two gaps together, as far as the first m rooms say -/
def tgB (l : List Int) (i j : Nat) : Nat → Bool
  | 0 => true
  | m + 1 => tgB l i j m && (amg l m (i + 1) (j + 1) == 0 || amg l m (i + 1) (j + 1) == amg l m 0 l.length)
theorem cnt_le (l : List Int) (r : Int) : ∀ i, cnt l r i ≤ i
  | 0 => by simp [cnt, sm]
  | i + 1 => by
    have := cnt_le l r i
    rw [cnt_succ]; unfold bI; split <;> omega
theorem amg_bd (l : List Int) (r : Int) (f t : Nat) (h : f ≤ t) (n : Nat) (hn : t ≤ n) : 0 ≤ amg l r f t ∧ amg l r f t ≤ n := by
  have := (cnt_eq l r f t h).1
  have := cnt_le l r t
  have := cnt_nonneg l r f
  unfold amg; omega
theorem tgB_iff (l : List Int) (i j : Nat) : ∀ m : Nat, tgB l i j m = true ↔ ∀ r : Nat, r < m → amg l r (i + 1) (j + 1) = 0 ∨ amg l r (i + 1) (j + 1) = amg l r 0 l.length
  | 0 => by simp [tgB]
  | m + 1 => by
    rw [tgB, Bool.and_eq_true, tgB_iff l i j m]
    simp only [Bool.or_eq_true, beq_iff_eq]
    constructor
    · rintro ⟨h1, h2⟩ r hr
      by_cases e : r = m
      · subst e; exact h2
      · exact h1 r (by omega)
    · intro h
      exact ⟨fun r hr => h r (by omega), h m (by omega)⟩
theorem many_gt (l : List Int) (t : Nat) (ht : t < l.length) : l.getD t 0 < manyL l := by
  have key : ∀ (d : List Int) (m : Int), m ≤ d.foldl (fun m x => max m (x + 1)) m ∧ ∀ x ∈ d, x < d.foldl (fun m x => max m (x + 1)) m := by
    intro d
    induction d with
    | nil => intro m; simp
    | cons y d ih =>
      intro m
      obtain ⟨h1, h2⟩ := ih (max m (y + 1))
      rw [List.foldl_cons]
      refine ⟨by omega, fun x hx => ?_⟩
      rcases List.mem_cons.1 hx with rfl | hx
      · omega
      · exact h2 x hx
  rw [manyL_def]
  exact (key l 0).2 _ (by rw [List.getD, List.getElem?_eq_getElem ht]; exact List.getElem_mem ht)
theorem tgB_tog {l : List Int} (hl : ∀ t, t < l.length → 0 ≤ l.getD t 0) (i j : Nat) (hij : i < j) (hj : j < l.length) : tgB l i j (manyL l).toNat = true ↔ Tog l (i + 1) (j + 1) := by
  rw [tgB_iff]
  have all : ∀ r : Int, amg l r (i + 1) (j + 1) = amg l r 0 l.length ↔ ∀ t, t < l.length → l.getD t 0 = r → i + 1 ≤ t ∧ t < j + 1 := by
    intro r
    have e0 : cnt l r 0 = 0 := rfl
    have h1 := cnt_eq l r 0 (i + 1) (by omega)
    have h2 := cnt_eq l r (i + 1) (j + 1) (by omega)
    have h3 := cnt_eq l r (j + 1) l.length (by omega)
    unfold amg
    constructor
    · intro h t ht e
      have c1 := h1.2.1 (by omega)
      have c3 := h3.2.1 (by omega)
      refine ⟨Nat.le_of_not_lt fun hlt => c1 t (by omega) hlt e, Nat.lt_of_not_le fun hle => c3 t hle ht e⟩
    · intro h
      have c1 := h1.2.2 (fun t _ ht e => by have := h t (by omega) e; omega)
      have c3 := h3.2.2 (fun t ht1 ht2 e => by have := h t ht2 e; omega)
      omega
  have non : ∀ r : Int, amg l r (i + 1) (j + 1) = 0 ↔ ∀ t, i + 1 ≤ t → t < j + 1 → l.getD t 0 ≠ r := fun r => by
    have h2 := cnt_eq l r (i + 1) (j + 1) (by omega)
    rw [← h2.2]; unfold amg; omega
  constructor
  · intro h t t' ht ht' e h1 h2
    have hp := hl t ht
    have hm := many_gt l t ht
    have hr := h (l.getD t 0).toNat (by omega)
    rw [show (((l.getD t 0).toNat : Nat) : Int) = l.getD t 0 by omega] at hr
    rcases hr with hr | hr
    · exact absurd rfl ((non _).1 hr t h1 h2)
    · exact (all _).1 hr t' ht' e.symm
  · intro h r _
    by_cases hin : ∃ t, i + 1 ≤ t ∧ t < j + 1 ∧ l.getD t 0 = (r : Int)
    · obtain ⟨t, h1, h2, h3⟩ := hin
      exact .inr ((all _).2 fun t' ht' e => h t t' (by omega) ht' (h3.trans e.symm) h1 h2)
    · exact .inl ((non _).2 fun t h1 h2 e => hin ⟨t, h1, h2, e⟩)
/-- the label of a gap, after so many gaps in front of it, from the last one on -/
def labS (l L : List Int) (j : Nat) : Nat → Int
  | 0 => (j : Int)
  | s + 1 => if tgB l (j - s - 1) j (manyL l).toNat = true then L.getD (j - s - 1) 0 else labS l L j s
def glK (l : List Int) : Nat → List Int
  | 0 => []
  | j + 1 => glK l j ++ [labS l (glK l j) j j]
theorem glK_len (l : List Int) : ∀ j, (glK l j).length = j
  | 0 => rfl
  | j + 1 => by simp [glK, glK_len l j]
theorem glK_get (l : List Int) : ∀ n i, i < n → (glK l n).getD i 0 = labS l (glK l i) i i
  | n + 1, i, hi => by
    have hlen := glK_len l n
    rw [glK]
    by_cases e : i = n
    · subst e
      have := app_last (glK l i) (labS l (glK l i) i i)
      rwa [hlen] at this
    · rw [app_getD _ _ _ (by omega)]
      exact glK_get l n i (by omega)
/-- the first gap of the same kind -/
theorem lab_first {l : List Int} (h : chkL l = 0) : ∀ j, j < l.length → ∃ m : Nat, labS l (glK l j) j j = (m : Int) ∧ m ≤ j ∧ (divL (gapK l)).getD m 0 = (divL (gapK l)).getD j 0 ∧ ∀ i, i < m → (divL (gapK l)).getD i 0 ≠ (divL (gapK l)).getD j 0 := by
  intro j
  induction j using Nat.strongRecOn with
  | _ j ih =>
    intro hj
    have hpos : ∀ t, t < l.length → 0 ≤ l.getD t 0 := fun t ht => (div_bound h t ht).1
    have key : ∀ s, s ≤ j → ∃ m : Nat, labS l (glK l j) j s = (m : Int) ∧ (m = j ∨ (j - s ≤ m ∧ m < j ∨ m < j)) ∧ m ≤ j ∧ (divL (gapK l)).getD m 0 = (divL (gapK l)).getD j 0 ∧ ∀ i, j - s ≤ i → i < m → i < j → (divL (gapK l)).getD i 0 ≠ (divL (gapK l)).getD j 0 := by
      intro s
      induction s with
      | zero => intro _; exact ⟨j, rfl, .inl rfl, Nat.le_refl _, rfl, fun i h1 h2 h3 => by omega⟩
      | succ s ihs =>
        intro hs
        obtain ⟨m, h1, h2, h3, h4, h5⟩ := ihs (by omega)
        rw [labS]
        have hgi := gap_iff h (j - s - 1) j (by omega) hj
        have htb := tgB_tog hpos (j - s - 1) j (by omega) hj
        by_cases ht : tgB l (j - s - 1) j (manyL l).toNat = true
        · rw [if_pos ht, glK_get l j (j - s - 1) (by omega)]
          obtain ⟨m', g1, g2, g3, g4⟩ := ih (j - s - 1) (by omega) (by omega)
          have e := hgi.2 (htb.1 ht)
          refine ⟨m', g1, .inr (.inr (by omega)), by omega, g3.trans e, fun i i1 i2 i3 hh => ?_⟩
          exact g4 i i2 (hh.trans e.symm)
        · rw [if_neg ht]
          refine ⟨m, h1, by omega, h3, h4, fun i i1 i2 i3 => ?_⟩
          by_cases e : i = j - s - 1
          · rw [e]
            exact fun hh => ht (htb.2 (hgi.1 hh))
          · exact h5 i (by omega) i2 i3
    obtain ⟨m, h1, _, h3, h4, h5⟩ := key j (Nat.le_refl _)
    exact ⟨m, h1, h3, h4, fun i hi => h5 i (by omega) hi (by omega)⟩
theorem gl_div {l : List Int} (h : chkL l = 0) : divL (glK l l.length) = divL (gapK l) := by
  have hlen := glK_len l l.length
  have key : ∀ i k, i < l.length → k < l.length → ((glK l l.length).getD i 0 = (glK l l.length).getD k 0 ↔ (divL (gapK l)).getD i 0 = (divL (gapK l)).getD k 0) := fun i k hi hk => by
    rw [glK_get l _ i hi, glK_get l _ k hk]
    obtain ⟨m, a1, a2, a3, a4⟩ := lab_first h i hi
    obtain ⟨m', b1, b2, b3, b4⟩ := lab_first h k hk
    rw [a1, b1]
    constructor
    · intro e
      have : m = m' := by omega
      subst this
      exact a3.symm.trans b3
    · intro e
      have h1 : ¬ m < m' := fun hlt => b4 m hlt (a3.trans e)
      have h2 : ¬ m' < m := fun hlt => a4 m' hlt (b3.trans e.symm)
      omega
  refine divL_congr _ _ 0 [] (by rw [hlen, gapK_len]) fun i j hi hj => ?_
  rw [hlen] at hi hj
  rw [key i j hi hj, divL_iff (gapK l) [] i j (by rw [gapK_len]; exact hi) (by rw [gapK_len]; exact hj)]
/-- gaps turned by one are what is begun in front -/
theorem back_ref {l : List Int} (h : chkL l = 0) : divL ((divL (gapK l)).getD (l.length - 1) 0 :: (divL (gapK l)).take (l.length - 1)) = divL (backK l) := by
  have hs := chkL_size h
  have hlen : (divL (gapK l)).length = l.length := by rw [divL_len _ [], gapK_len]
  have hb : (backK l).length = l.length := by simp [backK]
  have hbg : ∀ i, i < l.length → (backK l).getD i [] = nowK l (arcR l) i := fun i hi => by simp [backK, List.getD, hi]
  have hend : nowK l (arcR l) l.length = nowK l (arcR l) 0 := by
    refine ((now_iff (div_bound h) 0 l.length (by omega) (Nat.le_refl _)).2 fun t t' ht ht' _ _ _ => ⟨by omega, ht'⟩).symm
  have hg : ∀ i, i < l.length → ((divL (gapK l)).getD (l.length - 1) 0 :: (divL (gapK l)).take (l.length - 1)).getD i 0 = (divL (gapK l)).getD (if i = 0 then l.length - 1 else i - 1) 0 := fun i hi => by
    cases i with
    | zero => simp [List.getD]
    | succ i => simp [List.getD, List.getElem?_take, show i < l.length - 1 by omega]
  have hk : ∀ i, i < l.length → (gapK l).getD (if i = 0 then l.length - 1 else i - 1) [] = nowK l (arcR l) i := fun i hi => by
    rw [gapK_get l _ (by split <;> omega)]
    by_cases e : i = 0
    · rw [if_pos e, show l.length - 1 + 1 = l.length by omega, hend, e]
    · rw [if_neg e, show i - 1 + 1 = i by omega]
  refine divL_congr _ _ 0 [] (by simp [hlen, hb]; omega) fun i j hi hj => ?_
  have hl2 : ((divL (gapK l)).getD (l.length - 1) 0 :: (divL (gapK l)).take (l.length - 1)).length = l.length := by simp [hlen]; omega
  rw [hl2] at hi hj
  rw [hg i hi, hg j hj, divL_iff (gapK l) [] _ _ (by rw [gapK_len]; split <;> omega) (by rw [gapK_len]; split <;> omega), hk i hi, hk j hj, hbg i hi, hbg j hj]
end Store11
