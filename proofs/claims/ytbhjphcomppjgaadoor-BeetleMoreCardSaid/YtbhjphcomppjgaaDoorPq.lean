/- Plain facts of chapter 9: laws on days, on bales that make no difference, on safe ones. -/
import Derived.Test.YtbhjphcomppjgaaDoorPo
import Derived.Test.YtbhjphcomppjgaaDoorPp
namespace Beetle09
set_option maxRecDepth 100000
/-- Without a bale, the same get beetles, just if it gets some. -/
theorem del_iff {R C z s n : Nat} (h25 : s < 2 ^ 25) (hn25 : n < 25) (hb : s.testBit n = true) : fin R C z (del s n) = fin R C z s ↔ (fin R C z (del s n)).testBit n = true := by
  constructor
  · intro h
    rw [h]; exact sub_fin R C z s n hb
  · intro h
    have h1 : Sub s (fin R C z (del s n)) := fun i hi => by
      by_cases he : n = i
      · subst he; exact h
      · exact sub_fin R C z (del s n) i (by rw [del_bit h25 hn25, hi]; simp [he])
    exact ((fin_least h1 (cl_fin R C z (del s n))).antisymm (fin_mono (Sub.refl z) (del_sub s n))).symm
/-- The bales that make no difference, by what all get. -/
theorem idle_law {R C z s : Nat} (h25 : s < 2 ^ 25) (hs : s < 2 ^ (R * C)) (hN : R * C ≤ 25) : idles R C z s = (els 25 s).filter fun n => decide (fin R C z (del s n) = fin R C z s) := by
  unfold idles
  rw [← els_top hs hN]
  refine List.filter_congr fun n hn => ?_
  obtain ⟨h1, h2⟩ := mem_els.1 hn
  rw [Bool.eq_iff_iff, decide_eq_true_eq]
  exact (del_iff h25 h1 h2).symm
/-- The day of a bale. -/
theorem cal_day {R C z s : Nat} : ∀ {D n e : Nat}, cal R C z s D n = (e : Int) + 1 → n < R * C ∧ gets R C z (itr R C z s e) n = true ∧ e < D
  | 0, n, e, h => by
    rw [cal] at h
    split at h <;> omega
  | D + 1, n, e, h => by
    rw [cal] at h
    split at h
    · rename_i h1
      rw [Bool.and_eq_true, decide_eq_true_eq] at h1
      obtain rfl : D = e := by omega
      exact ⟨h1.1, h1.2, by omega⟩
    · obtain ⟨a, b, c⟩ := cal_day h
      exact ⟨a, b, by omega⟩
/-- Who has beetles on some day. -/
theorem cal_upto {R C z s e : Nat} : ∀ {D : Nat} (m : Nat), e ≤ D → ((0 ≤ cal R C z s D m ∧ cal R C z s D m ≤ (e : Int)) ↔ (itr R C z s e).testBit m = true)
  | 0, m, h => by
    obtain rfl : e = 0 := by omega
    rw [cal, itr]
    cases hb : s.testBit m <;> simp
  | D + 1, m, h => by
    by_cases he : e = D + 1
    · subst he
      have := cal_nonneg (R := R) (C := C) (z := z) (s := s) (D + 1) m
      constructor
      · intro h2; exact this.1.1 h2.1
      · intro h2; exact ⟨this.1.2 h2, this.2.1⟩
    · have ih := cal_upto (R := R) (C := C) (z := z) (s := s) (e := e) (D := D) m (by omega)
      rw [cal]
      split
      · rename_i h1
        rw [Bool.and_eq_true, decide_eq_true_eq] at h1
        have hn := (gets_not h1.2).1
        constructor
        · intro h2; omega
        · intro h2
          have := itr_mono (R := R) (C := C) (z := z) (s := s) (show e ≤ D by omega) m h2
          rw [hn] at this; cases this
      · exact ih
/-- The bales that had beetles before a day. -/
def befS (R C z s : Nat) (v : Int) : Nat := ofP (fun m => decide (0 ≤ cal R C z s (R * C) m ∧ cal R C z s (R * C) m < v)) (R * C)
theorem befS_itr {R C z s e : Nat} (hs : s < 2 ^ (R * C)) (h : e ≤ R * C) : befS R C z s ((e : Int) + 1) = itr R C z s e := Nat.eq_of_testBit_eq fun i => by
  unfold befS
  rw [ofP_bit]
  have := cal_upto (R := R) (C := C) (z := z) (s := s) (e := e) (D := R * C) i h
  by_cases hi : i < R * C
  · rw [decide_eq_true hi, Bool.true_and, Bool.eq_iff_iff, decide_eq_true_eq, ← this]
    constructor <;> (intro h2; exact ⟨h2.1, by omega⟩)
  · rw [decide_eq_false hi, Bool.false_and]
    cases hb : (itr R C z s e).testBit i with
    | false => rfl
    | true => exact absurd (bit_lt (itr_lt hs e) hb) hi
theorem befS_zero (R C z s : Nat) : befS R C z s 0 = 0 := Nat.eq_of_testBit_eq fun i => by
  unfold befS
  rw [ofP_bit, Nat.zero_testBit, Bool.and_eq_false_iff]
  exact .inr (decide_eq_false fun h => by omega)
theorem befS_lt (R C z s : Nat) (v : Int) : befS R C z s v < 2 ^ (R * C) := ofP_lt _ _
/-- At least two neighbours bring beetles, and at most one had some two days before. -/
theorem reach_ok {R C z s n : Nat} {v : Int} (hs : s < 2 ^ (R * C)) (hv : cal R C z s (R * C) n = v) (h1 : 1 ≤ v) : 2 ≤ cnt R C (befS R C z s v) n ∧ cnt R C (befS R C z s (v - 1)) n ≤ 1 := by
  obtain ⟨e, rfl⟩ : ∃ e : Nat, v = (e : Int) + 1 := ⟨(v - 1).toNat, by omega⟩
  obtain ⟨hn, hg, he⟩ := cal_day hv
  obtain ⟨g1, g2, g3⟩ := gets_not hg
  refine ⟨by rw [befS_itr hs (by omega)]; exact g3, ?_⟩
  rw [show (e : Int) + 1 - 1 = (e : Int) by omega]
  cases e with
  | zero =>
    rw [show ((0 : Nat) : Int) = 0 from rfl, befS_zero]
    unfold cnt
    simp
  | succ d =>
    rw [show ((d + 1 : Nat) : Int) = (d : Int) + 1 by omega, befS_itr hs (by omega)]
    by_cases h2 : 2 ≤ cnt R C (itr R C z s d) n
    · exfalso
      have h3 : (itr R C z s d).testBit n = false := by
        cases hb : (itr R C z s d).testBit n with
        | false => rfl
        | true => have := itr_mono (R := R) (C := C) (z := z) (s := s) (show d ≤ d + 1 by omega) n hb; rw [g1] at this; cases this
      have h4 : (itr R C z s (d + 1)).testBit n = true := by
        show (stp R C z (itr R C z s d)).testBit n = true
        rw [stp_bit, h3, Bool.false_or, decide_eq_true hn, Bool.true_and]
        exact gets_of h3 g2 h2
      rw [g1] at h4; cases h4
    · omega
/-- With more bales that have beetles, and fewer frozen ones, none gets some later. -/
theorem cal_more {R C z z' s s' D n : Nat} (hz : Sub z' z) (hs : Sub s s') (h : 0 ≤ cal R C z s D n) : 0 ≤ cal R C z' s' D n ∧ cal R C z' s' D n ≤ cal R C z s D n := by
  obtain ⟨e, he⟩ : ∃ e : Nat, cal R C z s D n = (e : Int) := ⟨(cal R C z s D n).toNat, by omega⟩
  have hD : e ≤ D := by have := (cal_nonneg (R := R) (C := C) (z := z) (s := s) D n).2.1; omega
  have h1 := (cal_upto (R := R) (C := C) (z := z) (s := s) n hD).1 ⟨by omega, by omega⟩
  have h2 := (cal_upto (R := R) (C := C) (z := z') (s := s') n hD).2 (itr_sub hz hs e n h1)
  omega
/-- What is safe by itself gets no beetles. -/
theorem okB_apart {R C s z q : Nat} (hs : s < 2 ^ (R * C)) (hd : ∀ i, z.testBit i = true → s.testBit i = false) (h : okB R C s z q = true) : ∀ i, i < R * C → q.testBit i = true → (fin R C z s).testBit i = false := by
  rw [okB_iff] at h
  have h1 : Sub s (co R C q z) := fun i hi => by
    rw [co_bit, Bool.and_eq_true, decide_eq_true_eq, Bool.and_eq_true, Bool.not_eq_true', Bool.not_eq_true']
    have hiN := bit_lt hs hi
    refine ⟨hiN, ?_, ?_⟩
    · cases hq : q.testBit i with
      | false => rfl
      | true => have := (h i hiN hq).1; rw [hi] at this; cases this
    · cases hz : z.testBit i with
      | false => rfl
      | true => have := hd i hz; rw [hi] at this; cases this
  have h2 : Cl R C z (co R C q z) := fun n hn => by
    cases hg : gets R C z (co R C q z) n with
    | false => rfl
    | true =>
      obtain ⟨g1, g2, g3⟩ := gets_not hg
      rw [co_bit, decide_eq_true hn, Bool.true_and, g2, Bool.not_false, Bool.and_true, Bool.not_eq_false'] at g1
      have := (h n hn g1).2 g2
      omega
  intro i hi hq
  cases hf : (fin R C z s).testBit i with
  | false => rfl
  | true =>
    have := fin_least h1 h2 i hf
    rw [co_bit, hq] at this
    simp at this
/-- All that get no beetles are safe. -/
theorem okB_rest {R C s z t : Nat} (ht : ∀ i, i < R * C → t.testBit i = !(fin R C z s).testBit i) : okB R C s z t = true := by
  rw [okB_iff]
  intro n hn hq
  rw [ht n hn, Bool.not_eq_true'] at hq
  refine ⟨?_, fun hz => ?_⟩
  · cases hb : s.testBit n with
    | false => rfl
    | true => rw [sub_fin R C z s n hb] at hq; cases hq
  · have h1 : cnt R C (co R C t z) n ≤ cnt R C (fin R C z s) n := cnt_mono fun i hi => by
      rw [co_bit, Bool.and_eq_true, decide_eq_true_eq, Bool.and_eq_true, Bool.not_eq_true'] at hi
      have := hi.2.1
      rw [ht i hi.1] at this
      simpa using this
    have h2 := cl_fin R C z s n hn
    by_cases h3 : 2 ≤ cnt R C (fin R C z s) n
    · rw [gets_of hq hz h3] at h2; cases h2
    · omega
/-- Bales in their order are read. -/
theorem scan_ok {N : Nat} : ∀ (l : List Nat) (t : Int) (q : Nat), (∀ i ∈ l, i < N) → l.Pairwise (· < ·) → (∀ i ∈ l, t < (i : Int)) → scanE N (li l) t q = (0, q ||| setL l)
  | [], t, q, _, _, _ => by simp [li, scanE, setL]
  | n :: l, t, q, h1, h2, h3 => by
    obtain ⟨h4, h5⟩ := List.pairwise_cons.1 h2
    rw [show li (n :: l) = (n : Int) :: li l from rfl, scanE_ok (h1 n List.mem_cons_self) (by have := h3 n List.mem_cons_self; omega),
      scan_ok l n (q ||| 2 ^ n) (fun i hi => h1 i (List.mem_cons_of_mem _ hi)) h5 (fun i hi => by have := h4 i hi; omega), setL, or_swap]
/-- A set of bales is asked. -/
theorem prov_set {R C s z o : Nat} {r c : Int} {S F : List Int} (h : Opn r c S F R C s z) (h0 : openE r c S F = 0) (ho : o < 2 ^ (R * C)) : provE r c S F (li (els 25 o)) = if okB R C s z o then 0 else 14 := by
  rw [h.prov h0, els_top ho h.sd.n25, scan_ok (els (R * C) o) (-1) 0 (fun i hi => (mem_els.1 hi).1) (els_sorted _ _) (fun i _ => by omega), setL_els ho, Nat.zero_or, if_pos rfl]
end Beetle09
