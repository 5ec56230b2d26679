/- Plain functions of chapter 9: neighbours, days, what beetles reach. -/
namespace Beetle09
set_option maxRecDepth 100000

/-- The neighbours of a bale, ascending. -/
def nb (R C n : Nat) : List Nat :=
  (if 0 < n / C then [n - C] else []) ++ ((if 0 < n % C then [n - 1] else []) ++ ((if n % C + 1 < C then [n + 1] else []) ++ (if n / C + 1 < R then [n + C] else [])))
/-- How many neighbours of a bale are of a set. -/
def cnt (R C s n : Nat) : Nat := (nb R C n).countP fun m => s.testBit m
/-- The set of the numbers that fit. -/
def ofP (p : Nat → Bool) : Nat → Nat
  | 0 => 0
  | k + 1 => if p k then ofP p k ||| 2 ^ k else ofP p k
theorem two_bit (k i : Nat) : (2 ^ k).testBit i = decide (k = i) := Nat.testBit_two_pow
theorem ofP_bit (p : Nat → Bool) : ∀ N i, (ofP p N).testBit i = (decide (i < N) && p i)
  | 0, i => by simp [ofP]
  | k + 1, i => by
    simp only [ofP]
    by_cases hp : p k = true
    · rw [if_pos hp, Nat.testBit_or, ofP_bit p k i, two_bit]
      by_cases h : k = i
      · subst h; simp [hp]
      · by_cases h2 : i < k
        · simp [h, h2, show i < k + 1 by omega]
        · simp [h, h2, show ¬ i < k + 1 by omega]
    · rw [if_neg hp, ofP_bit p k i]
      by_cases h : k = i
      · subst h; simp [hp]
      · by_cases h2 : i < k
        · simp [h2, show i < k + 1 by omega]
        · simp [h2, show ¬ i < k + 1 by omega]
theorem ofP_lt (p : Nat → Bool) : ∀ N, ofP p N < 2 ^ N
  | 0 => by simp [ofP]
  | k + 1 => by
    have h := ofP_lt p k
    have h2 : (2 : Nat) ^ k < 2 ^ (k + 1) := by rw [Nat.pow_succ]; have := Nat.two_pow_pos k; omega
    simp only [ofP]
    split
    · exact Nat.or_lt_two_pow (by omega) h2
    · omega
/-- One set is of another one. -/
def Sub (s t : Nat) : Prop := ∀ i, s.testBit i = true → t.testBit i = true
theorem Sub.refl (s : Nat) : Sub s s := fun _ h => h
theorem Sub.trans {s t u : Nat} (h : Sub s t) (h' : Sub t u) : Sub s u := fun i hi => h' i (h i hi)
theorem Sub.antisymm {s t : Nat} (h : Sub s t) (h' : Sub t s) : s = t := Nat.eq_of_testBit_eq fun i => by
  by_cases hs : s.testBit i = true
  · rw [hs, h i hs]
  · by_cases ht : t.testBit i = true
    · exact absurd (h' i ht) hs
    · rw [Bool.not_eq_true] at hs ht; rw [hs, ht]
theorem lt_pow_of_sub {s t N : Nat} (h : Sub s t) (ht : t < 2 ^ N) : s < 2 ^ N := by
  refine Nat.lt_pow_two_of_testBit s fun i hi => ?_
  by_cases hs : s.testBit i = true
  · have := h i hs
    rw [Nat.testBit_lt_two_pow (Nat.lt_of_lt_of_le ht (Nat.pow_le_pow_right (by omega) hi))] at this
    cases this
  · simpa using hs
theorem bit_lt {s N i : Nat} (hs : s < 2 ^ N) (h : s.testBit i = true) : i < N := by
  by_cases hi : i < N
  · exact hi
  · rw [Nat.testBit_lt_two_pow (Nat.lt_of_lt_of_le hs (Nat.pow_le_pow_right (by omega) (by omega)))] at h; cases h
theorem cnt_mono {R C s t n : Nat} (h : Sub s t) : cnt R C s n ≤ cnt R C t n := List.countP_mono_left fun i _ hi => h i hi
/-- A bale that gets beetles on the next day. -/
def gets (R C z s n : Nat) : Bool := !s.testBit n && (!z.testBit n && decide (2 ≤ cnt R C s n))
/-- The next day. -/
def stp (R C z s : Nat) : Nat := s ||| ofP (gets R C z s) (R * C)
def itr (R C z s : Nat) : Nat → Nat
  | 0 => s
  | d + 1 => stp R C z (itr R C z s d)
/-- The first day up to some day, or -1. -/
def cal (R C z s : Nat) : Nat → Nat → Int
  | 0, n => if s.testBit n then 0 else -1
  | d + 1, n => if decide (n < R * C) && gets R C z (itr R C z s d) n then (d : Int) + 1 else cal R C z s d n
/-- All that get beetles. -/
def fin (R C z s : Nat) : Nat := itr R C z s (R * C)
theorem stp_bit (R C z s n : Nat) : (stp R C z s).testBit n = (s.testBit n || (decide (n < R * C) && gets R C z s n)) := by
  unfold stp; rw [Nat.testBit_or, ofP_bit]
theorem sub_stp (R C z s : Nat) : Sub s (stp R C z s) := fun i h => by rw [stp_bit, h]; rfl
theorem stp_lt {R C z s : Nat} (h : s < 2 ^ (R * C)) : stp R C z s < 2 ^ (R * C) := Nat.or_lt_two_pow h (ofP_lt _ _)
theorem itr_lt {R C z s : Nat} (h : s < 2 ^ (R * C)) : ∀ d, itr R C z s d < 2 ^ (R * C)
  | 0 => h
  | d + 1 => stp_lt (itr_lt h d)
theorem itr_mono {R C z s : Nat} {d e : Nat} (h : d ≤ e) : Sub (itr R C z s d) (itr R C z s e) := by
  induction e with
  | zero => obtain rfl : d = 0 := by omega
            exact Sub.refl _
  | succ e ih =>
    by_cases hd : d = e + 1
    · rw [hd]; exact Sub.refl _
    · exact (ih (by omega)).trans (sub_stp _ _ _ _)
theorem itr_stable {R C z s d : Nat} (h : itr R C z s (d + 1) = itr R C z s d) : ∀ e, d ≤ e → itr R C z s e = itr R C z s d := by
  intro e
  induction e with
  | zero => intro hd; obtain rfl : d = 0 := by omega
            rfl
  | succ e ih =>
    intro hd
    by_cases hde : d = e + 1
    · rw [hde]
    · show stp R C z (itr R C z s e) = _
      rw [ih (by omega)]; exact h
theorem cal_nonneg {R C z s : Nat} : ∀ d n, (0 ≤ cal R C z s d n ↔ (itr R C z s d).testBit n = true) ∧ cal R C z s d n ≤ d ∧ -1 ≤ cal R C z s d n
  | 0, n => by simp only [cal, itr]; split <;> simp [*]
  | d + 1, n => by
    obtain ⟨h1, h2, h3⟩ := cal_nonneg (R := R) (C := C) (z := z) (s := s) d n
    simp only [cal, itr]
    rw [stp_bit]
    split
    · rename_i h; rw [h]; simp; omega
    · rename_i h
      rw [Bool.not_eq_true] at h
      rw [h, Bool.or_false]
      refine ⟨h1, by omega, h3⟩
/-- what the reference asks of a bale while it goes through a day -/
theorem cal_before {R C z s : Nat} (d n : Nat) : (0 ≤ cal R C z s d n ∧ cal R C z s d n < (d : Int) + 1) ↔ (itr R C z s d).testBit n = true := by
  obtain ⟨h1, h2, h3⟩ := cal_nonneg (R := R) (C := C) (z := z) (s := s) d n
  rw [← h1]; constructor
  · exact fun h => h.1
  · exact fun h => ⟨h, by omega⟩
theorem cal_stable {R C z s d : Nat} (h : itr R C z s (d + 1) = itr R C z s d) (n : Nat) : ∀ e, d ≤ e → cal R C z s e n = cal R C z s d n := by
  intro e
  induction e with
  | zero => intro hd; obtain rfl : d = 0 := by omega
            rfl
  | succ e ih =>
    intro hd
    by_cases hde : d = e + 1
    · rw [hde]
    · simp only [cal]
      have h1 := itr_stable h e (by omega)
      have h2 := itr_stable h (e + 1) (by omega)
      have h3 : (itr R C z s (e + 1)).testBit n = (itr R C z s e).testBit n := by rw [h1, h2]
      have h4 : itr R C z s (e + 1) = stp R C z (itr R C z s e) := rfl
      rw [h4, stp_bit] at h3
      have h5 : (decide (n < R * C) && gets R C z (itr R C z s e) n) = false := by
        cases hg : (decide (n < R * C) && gets R C z (itr R C z s e) n) with
        | false => rfl
        | true =>
          have hs : (itr R C z s e).testBit n = false := by
            rw [Bool.and_eq_true] at hg
            have := hg.2
            unfold gets at this
            rw [Bool.and_eq_true] at this
            simpa using this.1
          rw [hs, hg] at h3; cases h3
      rw [h5]
      simp only [Bool.false_eq_true, if_false]
      exact ih (by omega)
/-- How many a set has of the first N. -/
def pcN (N s : Nat) : Nat := (List.range N).countP s.testBit
theorem pcN_le (N s : Nat) : pcN N s ≤ N := by
  have := List.countP_le_length (p := s.testBit) (l := List.range N)
  rwa [List.length_range] at this
theorem pcN_mono {N s t : Nat} (h : Sub s t) : pcN N s ≤ pcN N t := List.countP_mono_left fun i _ hi => h i hi
theorem countP_lt {p q : Nat → Bool} : ∀ {l : List Nat} {x : Nat}, (∀ i, p i = true → q i = true) → x ∈ l → p x = false → q x = true → l.countP p < l.countP q
  | y :: l, x, h, hx, hp, hq => by
    rw [List.countP_cons, List.countP_cons]
    have hm : l.countP p ≤ l.countP q := List.countP_mono_left fun i _ hi => h i hi
    by_cases e : x = y
    · subst e
      rw [hp, hq]
      simp only [Bool.false_eq_true, if_false, if_true]
      omega
    · have := countP_lt h ((List.mem_cons.1 hx).resolve_left e) hp hq
      by_cases hy : p y = true
      · rw [if_pos hy, if_pos (h y hy)]; omega
      · rw [if_neg hy]; split <;> omega
theorem pcN_lt {N s t x : Nat} (h : Sub s t) (hx : x < N) (hs : s.testBit x = false) (ht : t.testBit x = true) : pcN N s < pcN N t :=
  countP_lt h (List.mem_range.2 hx) hs ht
theorem eq_or_gets {R C z s : Nat} : stp R C z s = s ∨ ∃ n, n < R * C ∧ gets R C z s n = true := by
  by_cases h : ∃ n, n < R * C ∧ gets R C z s n = true
  · exact Or.inr h
  · refine Or.inl (Sub.antisymm (fun i hi => ?_) (sub_stp _ _ _ _))
    rw [stp_bit, Bool.or_eq_true, Bool.and_eq_true, decide_eq_true_eq] at hi
    exact hi.elim id fun hh => absurd ⟨i, hh⟩ h
theorem gets_not {R C z s n : Nat} (h : gets R C z s n = true) : s.testBit n = false ∧ z.testBit n = false ∧ 2 ≤ cnt R C s n := by
  unfold gets at h
  rw [Bool.and_eq_true, Bool.and_eq_true] at h
  exact ⟨by simpa using h.1, by simpa using h.2.1, by simpa using h.2.2⟩
theorem pc_itr {R C z s : Nat} (d : Nat) : (∃ e, e ≤ d ∧ itr R C z s (e + 1) = itr R C z s e) ∨ d + 1 ≤ pcN (R * C) (itr R C z s (d + 1)) := by
  induction d with
  | zero =>
    rcases eq_or_gets (R := R) (C := C) (z := z) (s := s) with h | ⟨n, hn, hg⟩
    · exact Or.inl ⟨0, Nat.le_refl _, h⟩
    · refine Or.inr ?_
      have := pcN_lt (sub_stp R C z s) hn (gets_not hg).1 (by rw [stp_bit, hg]; simp [hn])
      show 0 + 1 ≤ pcN (R * C) (stp R C z s)
      omega
  | succ d ih =>
    rcases ih with ⟨e, he, h⟩ | h
    · exact Or.inl ⟨e, by omega, h⟩
    · rcases eq_or_gets (R := R) (C := C) (z := z) (s := itr R C z s (d + 1)) with h' | ⟨n, hn, hg⟩
      · exact Or.inl ⟨d + 1, Nat.le_refl _, h'⟩
      · refine Or.inr ?_
        have := pcN_lt (sub_stp R C z (itr R C z s (d + 1))) hn (gets_not hg).1 (by rw [stp_bit, hg]; simp [hn])
        show d + 1 + 1 ≤ pcN (R * C) (stp R C z (itr R C z s (d + 1)))
        omega
theorem stable_at (R C z s : Nat) : ∃ e, e ≤ R * C ∧ itr R C z s (e + 1) = itr R C z s e := by
  rcases pc_itr (R := R) (C := C) (z := z) (s := s) (R * C) with h | h
  · exact h
  · have := pcN_le (R * C) (itr R C z s (R * C + 1)); omega
theorem itr_fin {R C z s d : Nat} (h : itr R C z s (d + 1) = itr R C z s d) : itr R C z s d = fin R C z s := by
  obtain ⟨e, he, h'⟩ := stable_at R C z s
  unfold fin
  by_cases hd : d ≤ R * C
  · exact (itr_stable h _ hd).symm
  · have h1 := itr_stable h' d (by omega)
    have h2 := itr_stable h' (R * C) he
    rw [h1, h2]
theorem cal_fin {R C z s d : Nat} (h : itr R C z s (d + 1) = itr R C z s d) (n : Nat) : cal R C z s d n = cal R C z s (R * C) n := by
  obtain ⟨e, he, h'⟩ := stable_at R C z s
  by_cases hd : d ≤ R * C
  · exact (cal_stable h n _ hd).symm
  · rw [cal_stable h' n d (by omega), cal_stable h' n (R * C) he]
theorem stp_fin (R C z s : Nat) : stp R C z (fin R C z s) = fin R C z s := by
  obtain ⟨e, he, h⟩ := stable_at R C z s
  have h1 := itr_stable h (R * C) he
  have h2 := itr_stable h (R * C + 1) (by omega)
  show itr R C z s (R * C + 1) = itr R C z s (R * C)
  rw [h1, h2]
theorem sub_fin (R C z s : Nat) : Sub s (fin R C z s) := itr_mono (Nat.zero_le _)
theorem fin_lt {R C z s : Nat} (h : s < 2 ^ (R * C)) : fin R C z s < 2 ^ (R * C) := itr_lt h _
/-- No bale outside gets any. -/
def Cl (R C z s : Nat) : Prop := ∀ n, n < R * C → gets R C z s n = false
theorem cl_iff {R C z s : Nat} : Cl R C z s ↔ stp R C z s = s := by
  constructor
  · intro h
    rcases eq_or_gets (R := R) (C := C) (z := z) (s := s) with h' | ⟨n, hn, hg⟩
    · exact h'
    · rw [h n hn] at hg; cases hg
  · intro h n hn
    cases hg : gets R C z s n with
    | false => rfl
    | true =>
      have h1 := (gets_not hg).1
      have h2 := stp_bit R C z s n
      rw [h, h1, hg] at h2
      simp [hn] at h2
theorem cl_fin (R C z s : Nat) : Cl R C z (fin R C z s) := cl_iff.2 (stp_fin R C z s)
theorem stp_sub {R C z z' s t : Nat} (hz : Sub z' z) (h : Sub s t) : Sub (stp R C z s) (stp R C z' t) := by
  intro i hi
  rw [stp_bit, Bool.or_eq_true, Bool.and_eq_true, decide_eq_true_eq] at hi
  rw [stp_bit]
  cases ht : t.testBit i with
  | true => rfl
  | false =>
    rcases hi with hi | ⟨h1, h2⟩
    · rw [h i hi] at ht; cases ht
    · obtain ⟨g1, g2, g3⟩ := gets_not h2
      have g4 : z'.testBit i = false := by
        cases hz' : z'.testBit i with
        | false => rfl
        | true => rw [hz i hz'] at g2; cases g2
      have := cnt_mono (R := R) (C := C) (n := i) h
      simp only [gets, ht, g4, h1, decide_true, Bool.not_false, Bool.true_and, Bool.false_or, decide_eq_true_eq]
      omega
theorem itr_sub {R C z z' s t : Nat} (hz : Sub z' z) (h : Sub s t) : ∀ d, Sub (itr R C z s d) (itr R C z' t d)
  | 0 => h
  | d + 1 => stp_sub hz (itr_sub hz h d)
/-- All of it is in any closed set that it begins in. -/
theorem fin_least {R C z s t : Nat} (h : Sub s t) (hc : Cl R C z t) : Sub (fin R C z s) t := by
  have : ∀ d, Sub (itr R C z s d) t := by
    intro d
    induction d with
    | zero => exact h
    | succ d ih =>
      have := stp_sub (R := R) (C := C) (Sub.refl z) ih
      rw [cl_iff.1 hc] at this
      exact this
  exact this _
theorem fin_mono {R C z z' s t : Nat} (hz : Sub z' z) (h : Sub s t) : Sub (fin R C z s) (fin R C z' t) := itr_sub hz h _
end Beetle09
