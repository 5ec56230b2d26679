/- Plain facts of chapter 9: sets that are safe by themselves, by masks. -/
import Derived.Test.YtbhjphcomppjgaaDoorPq
namespace Beetle09
set_option maxRecDepth 100000
theorem co_mask {R C o z : Nat} (h25 : R * C ≤ 25) (ho : o < 2 ^ 25) (hz : z < 2 ^ 25) : ((2 ^ (R * C) - 1) &&& (4294967295 - o)) &&& (4294967295 - z) = co R C o z := Nat.eq_of_testBit_eq fun i => by
  have ha : 2 ^ (R * C) - 1 < 2 ^ 25 := by
    have h1 : 2 ^ (R * C) ≤ 2 ^ 25 := Nat.pow_le_pow_right (by omega) h25
    have := Nat.two_pow_pos (R * C)
    omega
  rw [dif_bit (Nat.lt_of_le_of_lt Nat.and_le_left ha) (by omega), dif_bit ha (by omega), co_bit, pow_sub_one_bit, Bool.and_assoc]
theorem rest_mask {N q i : Nat} (h25 : N ≤ 25) (hq : q < 2 ^ 25) (hi : i < N) : ((2 ^ N - 1) &&& (4294967295 - q)).testBit i = !q.testBit i := by
  have ha : 2 ^ N - 1 < 2 ^ 25 := by
    have h1 : 2 ^ N ≤ 2 ^ 25 := Nat.pow_le_pow_right (by omega) h25
    have := Nat.two_pow_pos N
    omega
  rw [dif_bit ha (by omega), pow_sub_one_bit, decide_eq_true hi, Bool.true_and]
/-- A set is safe, as the law asks. -/
theorem okB_law {R C s z o : Nat} (ho : o < 2 ^ (R * C)) (h25 : R * C ≤ 25) (hz : z < 2 ^ 25) : okB R C s z o = (decide (o &&& s = 0) && (els 25 (o &&& (4294967295 - z))).all fun n => decide (cnt R C (co R C o z) n ≤ 1)) := by
  by_cases h1 : o &&& s = 0
  · rw [decide_eq_true h1, Bool.true_and]
    cases hA : (els 25 (o &&& (4294967295 - z))).all fun n => decide (cnt R C (co R C o z) n ≤ 1) with
    | true =>
      rw [List.all_eq_true] at hA
      refine okB_yes ho h25 (by omega) h1 fun i hi => ?_
      have := hA _ (List.getElem_mem hi)
      rw [show (els 25 (o &&& (4294967295 - z))).getD i 0 = (els 25 (o &&& (4294967295 - z)))[i] by simp [List.getD, hi]]
      exact of_decide_eq_true this
    | false =>
      rw [List.all_eq_false] at hA
      obtain ⟨n, hn, hc⟩ := hA
      obtain ⟨h2, h3⟩ := mem_els.1 hn
      rw [dif_bit (lt25 ho h25) (by omega), Bool.and_eq_true, Bool.not_eq_true'] at h3
      exact okB_near (bit_lt ho h3.1) h3.1 h3.2 (by simpa using hc)
  · rw [decide_eq_false h1, Bool.false_and]
    exact okB_sick ho h1
theorem okB_meet {R C s z q : Nat} (hs : s < 2 ^ (R * C)) (hq : q < 2 ^ (R * C)) (hd : ∀ i, z.testBit i = true → s.testBit i = false) (h : okB R C s z q = true) : q &&& fin R C z s = 0 := Nat.eq_of_testBit_eq fun i => by
  rw [Nat.testBit_and, Nat.zero_testBit]
  cases hb : q.testBit i with
  | false => rfl
  | true => rw [okB_apart hs hd h i (bit_lt hq hb) hb]; rfl
end Beetle09
