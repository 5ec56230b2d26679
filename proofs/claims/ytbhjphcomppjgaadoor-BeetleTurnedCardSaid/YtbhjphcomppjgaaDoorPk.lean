/- Plain facts of chapter 9: bales that are safe by themselves. -/
import Derived.Test.YtbhjphcomppjgaaDoorPj
namespace Beetle09
set_option maxRecDepth 100000
/-- What is neither of a set nor frozen. -/
def co (R C q z : Nat) : Nat := ofP (fun i => !q.testBit i && !z.testBit i) (R * C)
theorem co_bit (R C q z i : Nat) : (co R C q z).testBit i = (decide (i < R * C) && (!q.testBit i && !z.testBit i)) := ofP_bit _ _ _
/-- A set is safe by itself. -/
def okB (R C s z q : Nat) : Bool := (List.range (R * C)).all fun n => !q.testBit n || (!s.testBit n && (z.testBit n || decide (cnt R C (co R C q z) n ≤ 1)))
theorem okB_iff {R C s z q : Nat} : okB R C s z q = true ↔ ∀ n, n < R * C → q.testBit n = true → s.testBit n = false ∧ (z.testBit n = false → cnt R C (co R C q z) n ≤ 1) := by
  unfold okB
  rw [List.all_eq_true]
  constructor
  · intro h n hn hq
    have := h n (List.mem_range.2 hn)
    rw [hq] at this
    simp only [Bool.not_true, Bool.false_or, Bool.and_eq_true, Bool.not_eq_true', Bool.or_eq_true, decide_eq_true_eq] at this
    exact ⟨this.1, fun hz => by rcases this.2 with h2 | h2
                                · rw [hz] at h2; cases h2
                                · exact h2⟩
  · intro h n hn
    cases hq : q.testBit n with
    | false => rfl
    | true =>
      obtain ⟨h1, h2⟩ := h n (List.mem_range.1 hn) hq
      rw [h1]
      cases hz : z.testBit n with
      | true => rfl
      | false => simp [h2 hz]
/-- Bales are read in their order: the error, and the set. -/
def scanE (N : Nat) : List Int → Int → Nat → Int × Nat
  | [], _, q => (0, q)
  | x :: l, t, q => if x < 0 ∨ (N : Int) ≤ x then (2, q) else if x ≤ t then (7, q) else scanE N l x (q ||| 2 ^ x.toNat)
theorem scanE_bad {N : Nat} {x t : Int} {l : List Int} {q : Nat} (h : x < 0 ∨ (N : Int) ≤ x) : scanE N (x :: l) t q = (2, q) := by rw [scanE, if_pos h]
theorem scanE_ord {N x : Nat} {t : Int} {l : List Int} {q : Nat} (h : x < N) (h2 : (x : Int) ≤ t) : scanE N ((x : Int) :: l) t q = (7, q) := by
  rw [scanE, if_neg (by omega), if_pos h2]
theorem scanE_ok {N x : Nat} {t : Int} {l : List Int} {q : Nat} (h : x < N) (h2 : ¬ (x : Int) ≤ t) : scanE N ((x : Int) :: l) t q = scanE N l x (q ||| 2 ^ x) := by
  rw [scanE, if_neg (by omega), if_neg h2, Int.toNat_natCast]
def provE (r c : Int) (S F Z : List Int) : Int :=
  if openE r c S F = 0 then
    if (scanE (r.toNat * c.toNat) Z (-1) 0).1 = 0 then (if okB r.toNat c.toNat (sOf S) (sOf F) (scanE (r.toNat * c.toNat) Z (-1) 0).2 then 0 else 14)
    else (scanE (r.toNat * c.toNat) Z (-1) 0).1
  else openE r c S F
theorem Opn.prov {r c : Int} {S F : List Int} {R C s z : Nat} (h : Opn r c S F R C s z) (h0 : openE r c S F = 0) (Z : List Int) :
    provE r c S F Z = if (scanE (R * C) Z (-1) 0).1 = 0 then (if okB R C s z (scanE (R * C) Z (-1) 0).2 then 0 else 14) else (scanE (R * C) Z (-1) 0).1 := by
  rw [provE, if_pos h0, h.rs.sOf, h.rz.sOf, h.er, h.ec]; rfl
theorem bad_prov {r c : Int} {S F Z : List Int} (h0 : openE r c S F ≠ 0) : provE r c S F Z = openE r c S F := by rw [provE, if_neg h0]
/-- Not of a set, by bits. -/
theorem not_bit {q i : Nat} (hq : q < 4294967296) (hi : i < 32) : (4294967295 - q).testBit i = !q.testBit i := by
  have e : 4294967295 - q = 2 ^ 32 - (q + 1) := by
    have : (2 : Nat) ^ 32 = 4294967296 := by decide
    omega
  rw [e, Nat.testBit_two_pow_sub_succ (by omega)]
  simp [hi]
theorem co_near {R C q z n : Nat} (hs : Sd R C) (hn : n < R * C) (hq : q < 4294967296) (hz : z < 4294967296) : (nbS R C n &&& (4294967295 - q)) &&& (4294967295 - z) = nbS R C n &&& co R C q z := Nat.eq_of_testBit_eq fun i => by
  rw [Nat.testBit_and, Nat.testBit_and, Nat.testBit_and, co_bit]
  cases h : (nbS R C n).testBit i with
  | false => simp
  | true =>
    have hi := bit_lt (nbS_lt hs hn) h
    have := hs.n25
    rw [not_bit hq (by omega), not_bit hz (by omega)]
    simp [hi]
theorem co_cnt {R C q z n : Nat} (hs : Sd R C) (hn : n < R * C) (hq : q < 4294967296) (hz : z < 4294967296) : pcN 32 ((nbS R C n &&& (4294967295 - q)) &&& (4294967295 - z)) = cnt R C (co R C q z) n := by
  rw [co_near hs hn hq hz, cnt_pc hs hn]
theorem dif_bit {q z i : Nat} (hq : q < 2 ^ 25) (hz : z < 4294967296) : (q &&& (4294967295 - z)).testBit i = (q.testBit i && !z.testBit i) := by
  rw [Nat.testBit_and]
  by_cases hi : i < 32
  · rw [not_bit hz hi]
  · rw [Nat.testBit_lt_two_pow (x := q) (i := i) (Nat.lt_of_lt_of_le hq (Nat.pow_le_pow_right (by omega) (by omega)))]; rfl
theorem okB_yes {R C s z q : Nat} (hq : q < 2 ^ (R * C)) (h25 : R * C ≤ 25) (hz : z < 4294967296) (h1 : q &&& s = 0) (h2 : ∀ i, i < (els 25 (q &&& (4294967295 - z))).length → cnt R C (co R C q z) ((els 25 (q &&& (4294967295 - z))).getD i 0) ≤ 1) : okB R C s z q = true := by
  rw [okB_iff]
  intro n hn hb
  constructor
  · cases hs : s.testBit n with
    | false => rfl
    | true =>
      have := congrArg (fun x => x.testBit n) h1
      simp [Nat.testBit_and, hb, hs] at this
  · intro hzn
    have hm : n ∈ els 25 (q &&& (4294967295 - z)) := mem_els.2 ⟨by omega, by rw [dif_bit (lt25 hq h25) hz, hb, hzn]; rfl⟩
    obtain ⟨i, hi, e⟩ := List.mem_iff_getElem.1 hm
    have := h2 i hi
    rwa [show (els 25 (q &&& (4294967295 - z))).getD i 0 = n by simp [List.getD, hi, e]] at this
theorem okB_sick {R C s z q : Nat} (hq : q < 2 ^ (R * C)) (h1 : q &&& s ≠ 0) : okB R C s z q = false := by
  cases h : okB R C s z q with
  | false => rfl
  | true =>
    refine absurd (Nat.eq_of_testBit_eq fun i => ?_) h1
    rw [Nat.testBit_and, Nat.zero_testBit]
    cases hb : q.testBit i with
    | false => rfl
    | true => rw [(okB_iff.1 h i (bit_lt hq hb) hb).1]; rfl
theorem okB_near {R C s z q n : Nat} (hn : n < R * C) (hb : q.testBit n = true) (hz : z.testBit n = false) (hc : ¬ cnt R C (co R C q z) n ≤ 1) : okB R C s z q = false := by
  cases h : okB R C s z q with
  | false => rfl
  | true => exact absurd ((okB_iff.1 h n hn hb).2 hz) hc
/-- What a scan leaves is of the store. -/
theorem scan_lt {N : Nat} : ∀ {Z : List Int} {t : Int} {q : Nat}, q < 2 ^ N → (scanE N Z t q).2 < 2 ^ N
  | [], _, _, h => h
  | x :: Z, t, q, h => by
    rw [scanE]
    split
    · exact h
    · split
      · exact h
      · exact scan_lt (ins_lt h (by omega))
end Beetle09
