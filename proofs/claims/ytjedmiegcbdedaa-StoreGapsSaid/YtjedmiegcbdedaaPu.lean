/- Plain functions: the pattern of gaps. -/
import Derived.Test.YtjedmiegcbdedaaPr
namespace Store11
/-- a later box of the room -/
def Later (l : List Int) (r : Int) (i : Nat) : Prop := ∃ t, t < l.length ∧ i ≤ t ∧ l.getD t 0 = r
/-- how many of a room are among the first i -/
def cnt (l : List Int) (r : Int) (i : Nat) : Int := sm (fun t => bI (l.getD t 0 = r)) i
theorem cnt_succ (l : List Int) (r : Int) (i : Nat) : cnt l r (i + 1) = cnt l r i + bI (l.getD i 0 = r) := rfl
theorem cnt_nonneg (l : List Int) (r : Int) (i : Nat) : 0 ≤ cnt l r i := sm_nonneg _ fun _ _ => bI_nonneg _
theorem cnt_mono (l : List Int) (r : Int) (i : Nat) : ∀ d, cnt l r i ≤ cnt l r (i + d) ∧ (cnt l r (i + d) = cnt l r i ↔ ∀ t, i ≤ t → t < i + d → l.getD t 0 ≠ r)
  | 0 => ⟨Int.le_refl _, by simp; omega⟩
  | d + 1 => by
    obtain ⟨h1, h2⟩ := cnt_mono l r i d
    have hb := bI_nonneg (l.getD (i + d) 0 = r)
    rw [show i + (d + 1) = (i + d) + 1 from rfl, cnt_succ]
    refine ⟨by omega, ?_⟩
    constructor
    · intro h t ht1 ht2
      by_cases e : t = i + d
      · subst e
        exact bI_zero.1 (by omega)
      · exact h2.1 (by omega) t ht1 (by omega)
    · intro h
      have h3 := h2.2 (fun t ht1 ht2 => h t ht1 (by omega))
      have h4 : bI (l.getD (i + d) 0 = r) = 0 := bI_zero.2 (h (i + d) (by omega) (by omega))
      omega
theorem cnt_eq (l : List Int) (r : Int) (i j : Nat) (h : i ≤ j) : cnt l r i ≤ cnt l r j ∧ (cnt l r j = cnt l r i ↔ ∀ t, i ≤ t → t < j → l.getD t 0 ≠ r) := by
  have := cnt_mono l r i (j - i)
  rwa [show i + (j - i) = j by omega] at this
theorem cnt_zero (l : List Int) (r : Int) (i : Nat) : cnt l r i = 0 ↔ ∀ t, t < i → l.getD t 0 ≠ r := by
  have := (cnt_eq l r 0 i (by omega)).2
  have e : cnt l r 0 = 0 := rfl
  rw [e] at this
  rw [this]
  exact ⟨fun h t ht => h t (by omega) ht, fun h t _ ht => h t ht⟩
theorem nxt_later {l : List Int} (i : Nat) (hi : i < l.length) : (arcR l).getD i 0 = 0 ↔ ¬ Later l (l.getD i 0) (i + 1) := by
  rcases arcR_nxt l i with ⟨j, h1, h2⟩ | ⟨h1, h2⟩
  · rw [h1]
    have := h2.1
    refine ⟨fun h => by omega, fun h => absurd ⟨j, h2.2.1, by omega, h2.2.2.1.symm⟩ h⟩
  · refine ⟨fun _ => ?_, fun _ => h1⟩
    rintro ⟨t, ht1, ht2, ht3⟩
    -- the first later one makes an arc
    have : ∀ s t, t - i ≤ s → i < t → t < l.length → l.getD t 0 = l.getD i 0 → ∃ j, Arc l i j := by
      intro s
      induction s with
      | zero => intro t h _ _ _; omega
      | succ s ih =>
        intro t h3 h4 h5 h6
        by_cases hA : Arc l i t
        · exact ⟨t, hA⟩
        · have : ∃ u, u < t ∧ i < u ∧ l.getD u 0 = l.getD i 0 := by
            refine Decidable.byContradiction fun hn => hA ⟨h4, h5, h6.symm, fun u hu1 hu2 e => hn ⟨u, hu1, hu2, e⟩⟩
          obtain ⟨u, hu1, hu2, hu3⟩ := this
          exact ih u (by omega) hu2 (by omega) hu3
    obtain ⟨j, hj⟩ := this (t - i) t (Nat.le_refl _) (by omega) ht1 ht3
    exact h2 j hj
theorem later_split (l : List Int) (r : Int) (i : Nat) (hi : i < l.length) : Later l r i ↔ l.getD i 0 = r ∨ Later l r (i + 1) := by
  constructor
  · rintro ⟨t, h1, h2, h3⟩
    by_cases e : t = i
    · subst e; exact .inl h3
    · exact .inr ⟨t, h1, by omega, h3⟩
  · rintro (h | ⟨t, h1, h2, h3⟩)
    · exact ⟨i, hi, by omega, h⟩
    · exact ⟨t, h1, by omega, h3⟩
open Classical in
/-- what is begun of a room behind the first i boxes -/
theorem nowK_get {l : List Int} (hl : ∀ t, t < l.length → 0 ≤ l.getD t 0 ∧ l.getD t 0 < 9) : ∀ i, i ≤ l.length → ∀ r : Nat, r < 9 → (nowK l (arcR l) i).getD r 0 = if Later l (r : Int) i then cnt l (r : Int) i else 0
  | 0, _, r, hr => by
    have e : (List.replicate 9 (0 : Int)).getD r 0 = 0 := by rw [List.getD, List.getElem?_replicate]; split <;> rfl
    rw [nowK, e]
    split
    · rfl
    · rfl
  | i + 1, hi, r, hr => by
    have ih := nowK_get hl i (by omega)
    have hb := hl i (by omega)
    have h9 : (nowK l (arcR l) i).length = 9 := nowK_len l _ i
    have hx := nxt_later i (show i < l.length by omega)
    have hs := later_split l (r : Int) i (by omega)
    have ihr := ih r hr
    have ihx := ih (l.getD i 0).toNat (by omega)
    rw [show (((l.getD i 0).toNat : Nat) : Int) = l.getD i 0 by omega] at ihx
    have hLi : Later l (l.getD i 0) i := ⟨i, by omega, by omega, rfl⟩
    rw [if_pos hLi] at ihx
    rw [nowK, nowS]
    rw [cnt_succ]
    generalize hL : nowK l (arcR l) i = L at *
    generalize hv : l.getD i 0 = v at *
    by_cases hrv : v = (r : Int)
    · subst hrv
      rw [Int.toNat_natCast] at *
      have hnl := set_getD L r r (L.getD r 0 + 1) (by omega)
      rw [if_pos rfl] at hnl
      split
      · rename_i h0
        rw [set_getD _ _ _ _ (by rw [List.length_set]; omega), if_pos rfl, if_neg (hx.1 h0)]
      · rename_i h0
        rw [hnl, if_pos (Decidable.byContradiction fun hn => h0 (hx.2 hn)), ihx, bI, if_pos rfl]
    · have hne : v.toNat ≠ r := by omega
      have hnl := set_getD L v.toNat r (L.getD v.toNat 0 + 1) (by omega)
      rw [if_neg hne] at hnl
      have hgoal : L.getD r 0 = if Later l (r : Int) (i + 1) then cnt l (r : Int) i + bI (v = (r : Int)) else 0 := by
        rw [ihr, bI, if_neg hrv, Int.add_zero]
        by_cases hq : Later l (r : Int) (i + 1)
        · rw [if_pos hq, if_pos (hs.2 (.inr hq))]
        · rw [if_neg hq, if_neg (fun hh => (hs.1 hh).elim hrv hq)]
      split
      · rw [set_getD _ _ _ _ (by rw [List.length_set]; omega), if_neg hne, hnl, hgoal]
      · rw [hnl, hgoal]
/-- every room lies wholly behind i and up to j, or wholly elsewhere -/
def Tog (l : List Int) (i j : Nat) : Prop := ∀ t t', t < l.length → t' < l.length → l.getD t 0 = l.getD t' 0 → i ≤ t → t < j → i ≤ t' ∧ t' < j
open Classical in
theorem now_iff {l : List Int} (hl : ∀ t, t < l.length → 0 ≤ l.getD t 0 ∧ l.getD t 0 < 9) (i j : Nat) (hij : i ≤ j) (hj : j ≤ l.length) : nowK l (arcR l) i = nowK l (arcR l) j ↔ Tog l i j := by
  constructor
  · intro h t t' ht ht' e h1 h2
    obtain ⟨h3, h4⟩ := hl t ht
    have hr := congrArg (fun L : List Int => L.getD (l.getD t 0).toNat 0) h
    rw [nowK_get hl i (by omega) _ (by omega), nowK_get hl j hj _ (by omega), show (((l.getD t 0).toNat : Nat) : Int) = l.getD t 0 by omega] at hr
    rw [if_pos ⟨t, ht, h1, rfl⟩] at hr
    have hmono := cnt_eq l (l.getD t 0) i j hij
    have hpos : cnt l (l.getD t 0) j ≠ cnt l (l.getD t 0) i := fun hh => hmono.2.1 hh t h1 h2 rfl
    by_cases hL : Later l (l.getD t 0) j
    · rw [if_pos hL] at hr
      exact absurd hr.symm hpos
    · rw [if_neg hL] at hr
      have h5 := (cnt_zero l (l.getD t 0) i).1 hr
      refine ⟨?_, ?_⟩
      · refine Nat.le_of_not_lt fun hlt => h5 t' hlt e.symm
      · refine Nat.lt_of_not_le fun hle => hL ⟨t', ht', hle, e.symm⟩
  · intro h
    refine ext_getD (by rw [nowK_len, nowK_len]) fun r hr => ?_
    rw [nowK_len] at hr
    rw [nowK_get hl i (by omega) r hr, nowK_get hl j hj r hr]
    have hmono := cnt_eq l (r : Int) i j hij
    by_cases hin : ∃ t, i ≤ t ∧ t < j ∧ l.getD t 0 = (r : Int)
    · obtain ⟨t, h1, h2, h3⟩ := hin
      have hin2 : ∀ t', t' < l.length → l.getD t' 0 = (r : Int) → i ≤ t' ∧ t' < j := fun t' ht' e => h t t' (by omega) ht' (h3.trans e.symm) h1 h2
      rw [if_pos ⟨t, by omega, h1, h3⟩, if_neg (fun hL => by obtain ⟨t', h4, h5, h6⟩ := hL; have := hin2 t' h4 h6; omega)]
      exact (cnt_zero l (r : Int) i).2 fun t' ht' e => by have := hin2 t' (by omega) e; omega
    · have h4 : cnt l (r : Int) j = cnt l (r : Int) i := hmono.2.2 fun t h1 h2 e => hin ⟨t, h1, h2, e⟩
      rw [h4]
      by_cases hL : Later l (r : Int) i
      · obtain ⟨t, h5, h6, h7⟩ := hL
        have h8 : j ≤ t := Nat.le_of_not_lt fun hlt => hin ⟨t, h6, hlt, h7⟩
        rw [if_pos ⟨t, h5, h6, h7⟩, if_pos ⟨t, h5, h8, h7⟩]
      · rw [if_neg hL, if_neg (fun hh => hL (by obtain ⟨t, h5, h6, h7⟩ := hh; exact ⟨t, h5, by omega, h7⟩))]
theorem gapK_len (l : List Int) : (gapK l).length = l.length := by simp [gapK]
theorem gapK_get (l : List Int) (i : Nat) (hi : i < l.length) : (gapK l).getD i [] = nowK l (arcR l) (i + 1) := by
  simp [gapK, List.getD, hi]
theorem div_bound {l : List Int} (h : chkL l = 0) : ∀ t, t < l.length → 0 ≤ l.getD t 0 ∧ l.getD t 0 < 9 := fun t ht => by
  have := chkL_bound h t ht
  have := (chkL_size h).2
  omega
/-- gaps are together -/
theorem gap_iff {l : List Int} (h : chkL l = 0) (i j : Nat) (hij : i ≤ j) (hj : j < l.length) : (divL (gapK l)).getD i 0 = (divL (gapK l)).getD j 0 ↔ Tog l (i + 1) (j + 1) := by
  rw [divL_iff (gapK l) [] i j (by rw [gapK_len]; omega) (by rw [gapK_len]; omega), gapK_get l i (by omega), gapK_get l j hj, now_iff (div_bound h) (i + 1) (j + 1) (by omega) (by omega)]
theorem gapL_eq {l : List Int} (h : chkL l = 0) (hf : NoC l) : flatE l = 0 ∧ gapL l = divL (gapK l) ∧ (divL (gapK l)).length = l.length ∧ chkL (divL (gapK l)) = 0 := by
  have h0 : flatE l = 0 := by unfold flatE; rw [if_pos h, if_neg (by rw [(flat_iff l).2 hf]; decide)]
  have hs := chkL_size h
  have hl : (divL (gapK l)).length = l.length := by rw [divL_len _ [], gapK_len]
  exact ⟨h0, by rw [gapL, if_pos h0], hl, divL_chk _ (by rw [gapK_len]; omega) (by rw [gapK_len]; omega) (by rw [hl, gapK_len])⟩
/-- a finer division has the coarser one of gaps -/
theorem gap_coarser {a m : List Int} (ha : chkL a = 0) (hm : chkL m = 0) (hl : m.length = a.length) (hf : ∀ i k, i < a.length → k < a.length → m.getD i 0 = m.getD k 0 → a.getD i 0 = a.getD k 0) (i j : Nat) (hi : i < a.length) (hj : j < a.length) (h : (divL (gapK a)).getD i 0 = (divL (gapK a)).getD j 0) : (divL (gapK m)).getD i 0 = (divL (gapK m)).getD j 0 := by
  have key : ∀ i j, i ≤ j → j < a.length → (divL (gapK a)).getD i 0 = (divL (gapK a)).getD j 0 → (divL (gapK m)).getD i 0 = (divL (gapK m)).getD j 0 := fun i j hij hj h => by
    have h1 := (gap_iff ha i j hij hj).1 h
    exact (gap_iff hm i j hij (by omega)).2 fun t t' ht ht' e h2 h3 => h1 t t' (by omega) (by omega) (hf t t' (by omega) (by omega) e) h2 h3
  by_cases hij : i ≤ j
  · exact key i j hij hj h
  · exact (key j i (by omega) hi h.symm).symm
end Store11
