/- Plain functions of chapter 9: how many a set has, and which. -/
import Derived.Test.YtbhjphcomppjgaaDoorPa
import Derived.Lib.BitFns
import Derived.Lib.TrailingZeros
namespace Beetle09
set_option maxRecDepth 100000

theorem popAux_count : ∀ f x, Go.Lib.popAux f x = (List.range f).countP x.testBit
  | 0, x => by simp [Go.Lib.popAux]
  | f + 1, x => by
    rw [List.range_succ_eq_map, List.countP_cons, List.countP_map, Go.Lib.popAux, popAux_count f (x / 2)]
    have h1 : (x / 2).testBit = x.testBit ∘ Nat.succ := by
      funext i
      simp only [Function.comp, Nat.succ_eq_add_one, Nat.testBit_succ]
    rw [h1]
    have h2 : x.testBit 0 = decide (x % 2 = 1) := Nat.testBit_zero x
    rw [h2]
    by_cases h : x % 2 = 1
    · simp [h]; omega
    · simp [h]; omega
theorem pcN_add (a b x : Nat) : pcN (a + b) x = pcN a x + pcN b (x / 2 ^ a) := by
  unfold pcN
  rw [List.range_add, List.countP_append, List.countP_map]
  congr 1
  refine List.countP_congr fun i _ => ?_
  simp only [Function.comp]
  rw [Nat.testBit_div_two_pow, Nat.add_comm]
theorem pcN_mod (a x : Nat) : pcN a (x % 2 ^ a) = pcN a x := by
  unfold pcN
  refine List.countP_congr fun i hi => ?_
  rw [Nat.testBit_mod_two_pow]
  simp [List.mem_range.1 hi]
theorem pcN_top {N M s : Nat} (hs : s < 2 ^ N) (h : N ≤ M) : pcN M s = pcN N s := by
  obtain ⟨k, rfl⟩ : ∃ k, M = N + k := ⟨M - N, by omega⟩
  rw [pcN_add, Nat.div_eq_of_lt hs]
  unfold pcN
  simp
theorem onesCount_pcN (x : Nat) (h : x < 256) : Go.Lib.onesCount x = pcN 8 x := by
  unfold Go.Lib.onesCount
  rw [popAux_count]
  exact pcN_top (N := 8) h (by omega)
/-- The four bytes of a number. -/
theorem pcN_bytes (x : Nat) (h : x < 4294967296) : pcN 32 x = Go.Lib.onesCount (x / 16777216) + Go.Lib.onesCount (x / 65536 % 256) + Go.Lib.onesCount (x / 256 % 256) + Go.Lib.onesCount (x % 256) := by
  rw [onesCount_pcN _ (by omega), onesCount_pcN _ (by omega), onesCount_pcN _ (by omega), onesCount_pcN _ (by omega)]
  rw [show (32 : Nat) = 8 + (8 + (8 + 8)) from rfl, pcN_add, pcN_add, pcN_add, Nat.div_div_eq_div_mul, Nat.div_div_eq_div_mul]
  have h1 := pcN_mod 8 x
  have h2 := pcN_mod 8 (x / 2 ^ 8)
  have h3 := pcN_mod 8 (x / (2 ^ 8 * 2 ^ 8))
  simp only [Nat.reducePow, Nat.reduceMul] at h1 h2 h3 ⊢
  rw [h1, h2, h3]
  omega

/-- The numbers of a set, ascending. -/
def els (N s : Nat) : List Nat := (List.range N).filter s.testBit
theorem els_len (N s : Nat) : (els N s).length = pcN N s := List.countP_eq_length_filter.symm
theorem mem_els {N s i : Nat} : i ∈ els N s ↔ i < N ∧ s.testBit i = true := by unfold els; rw [List.mem_filter, List.mem_range]
theorem els_nodup (N s : Nat) : (els N s).Nodup := List.Pairwise.sublist List.filter_sublist List.nodup_range
theorem els_zero (N : Nat) : els N 0 = [] := by unfold els; simp
theorem els_top {N M s : Nat} (hs : s < 2 ^ N) (h : N ≤ M) : els M s = els N s := by
  obtain ⟨k, rfl⟩ : ∃ k, M = N + k := ⟨M - N, by omega⟩
  unfold els
  rw [List.range_add, List.filter_append]
  have : ((List.range k).map (N + ·)).filter s.testBit = [] := by
    rw [List.filter_eq_nil_iff]
    intro x hx
    obtain ⟨y, _, rfl⟩ := List.mem_map.1 hx
    rw [Nat.testBit_lt_two_pow (Nat.lt_of_lt_of_le hs (Nat.pow_le_pow_right (by omega) (by omega)))]; simp
  rw [this, List.append_nil]
/-- 's & (s - 1)' is a set without its smallest number. -/
theorem low_spec {s : Nat} (h0 : 0 < s) (hs : s < 4294967296) : s.testBit (Go.Lib.ctz 32 s) = true ∧ (∀ i, i < Go.Lib.ctz 32 s → s.testBit i = false) ∧ (∀ k, (s &&& (s - 1)).testBit k = (s.testBit k && decide (k ≠ Go.Lib.ctz 32 s))) ∧ Go.Lib.ctz 32 s < 32 := by
  obtain ⟨m, hm, hk⟩ := Go.Lib.ctzFrom_spec 32 s h0 hs
  have hc : Go.Lib.ctz 32 s = Go.Lib.ctzFrom 32 s := by unfold Go.Lib.ctz; rw [if_neg (by omega)]
  rw [hc]
  obtain ⟨j, hj⟩ : ∃ j, Go.Lib.ctzFrom 32 s = j := ⟨_, rfl⟩
  rw [hj] at hm hk ⊢
  clear hc hj
  have e1 : s - 1 = 2 ^ j * (2 * m) + (2 ^ j - 1) := by
    have := Nat.two_pow_pos j
    rw [hm, Nat.mul_add, Nat.mul_one]; omega
  have hbit : ∀ i, s.testBit i = (decide (j ≤ i) && (2 * m + 1).testBit (i - j)) := fun i => by
    rw [hm, Nat.mul_comm, Nat.testBit_mul_two_pow]
  refine ⟨?_, ?_, ?_, hk⟩
  · rw [hbit]; simp [Nat.testBit_zero]
  · intro i hi; rw [hbit]; simp; omega
  · intro k
    rw [Nat.testBit_and, e1]
    by_cases hk : k < j
    · rw [hbit]; simp [show ¬ j ≤ k by omega]
    · obtain ⟨i, rfl⟩ : ∃ i, k = j + i := ⟨k - j, by omega⟩
      rw [Nat.testBit_two_pow_mul_add _ (by have := Nat.two_pow_pos j; omega), hbit]
      rw [if_neg (by omega)]
      simp only [Nat.add_sub_cancel_left]
      cases i with
      | zero => simp [Nat.testBit_zero]
      | succ i =>
        rw [Nat.testBit_succ, Nat.testBit_succ]
        have d1 : (2 * m + 1) / 2 = m := by omega
        have d2 : 2 * m / 2 = m := by omega
        rw [d1, d2]
        simp
theorem els_step {N s : Nat} (h0 : 0 < s) (hs : s < 2 ^ N) (hN : N ≤ 32) : els N s = Go.Lib.ctz 32 s :: els N (s &&& (s - 1)) := by
  have hs32 : s < 4294967296 := Nat.lt_of_lt_of_le hs (Nat.pow_le_pow_right (n := 2) (by omega) hN)
  obtain ⟨h1, h2, h3, h4⟩ := low_spec h0 hs32
  obtain ⟨j, hj⟩ : ∃ j, Go.Lib.ctz 32 s = j := ⟨_, rfl⟩
  rw [hj] at h1 h2 h3 h4 ⊢
  have hjN := bit_lt hs h1
  obtain ⟨k, rfl⟩ : ∃ k, N = (j + 1) + k := ⟨N - (j + 1), by omega⟩
  unfold els
  rw [List.range_add, List.filter_append, List.filter_append, List.range_succ, List.filter_append, List.filter_append]
  have f1 : (List.range j).filter s.testBit = [] := List.filter_eq_nil_iff.2 fun x hx => by rw [h2 x (List.mem_range.1 hx)]; simp
  have f2 : (List.range j).filter (s &&& (s - 1)).testBit = [] := List.filter_eq_nil_iff.2 fun x hx => by rw [h3, h2 x (List.mem_range.1 hx)]; simp
  have f3 : [j].filter s.testBit = [j] := by simp [h1]
  have f4 : [j].filter (s &&& (s - 1)).testBit = [] := by simp [h3]
  rw [f1, f2, f3, f4]
  simp only [List.nil_append, List.singleton_append, List.cons.injEq, true_and]
  refine List.filter_congr fun x hx => ?_
  obtain ⟨y, _, rfl⟩ := List.mem_map.1 hx
  rw [h3]; simp; omega
theorem pow_sub_one_bit (N i : Nat) : (2 ^ N - 1).testBit i = decide (i < N) := Nat.testBit_two_pow_sub_one N i
end Beetle09
