/- Plain facts of chapter 9: bales that make no difference, as the reference finds them. -/
import Derived.Test.YtbhjphcomppjgaaDoorPj
namespace Beetle09
set_option maxRecDepth 100000
theorem idle_iff {R C z s n : Nat} (h25 : s < 2 ^ 25) (hn : n < R * C) (hn25 : n < 25) (hb : s.testBit n = true) :
    pcN (R * C) (fin R C z (del s n)) = pcN (R * C) (fin R C z s) ↔ (fin R C z (del s n)).testBit n = true := by
  constructor
  · intro h
    cases hc : (fin R C z (del s n)).testBit n with
    | true => rfl
    | false =>
      have := pcN_lt (N := R * C) (fin_mono (R := R) (C := C) (Sub.refl z) (del_sub s n)) hn hc (sub_fin R C z s n hb)
      omega
  · intro h
    have h1 : Sub s (fin R C z (del s n)) := fun i hi => by
      by_cases he : n = i
      · subst he; exact h
      · exact sub_fin R C z (del s n) i (by rw [del_bit h25 hn25, hi]; simp [he])
    rw [(fin_least h1 (cl_fin R C z (del s n))).antisymm (fin_mono (Sub.refl z) (del_sub s n))]
/-- The list without one bale. -/
def les (S : List Int) (n : Nat) : List Int := S.filter fun x => decide (x ≠ (n : Int))
theorem les_succ {S : List Int} {i n : Nat} (hi : i < S.length) : les (S.take (i + 1)) n = les (S.take i) n ++ if S.getD i 0 = (n : Int) then [] else [S.getD i 0] := by
  unfold les
  rw [List.take_succ_eq_append_getElem hi, List.filter_append]
  congr 1
  rw [show S.getD i 0 = S[i] by simp [List.getD, hi]]
  by_cases h : S[i] = (n : Int) <;> simp [h]
theorem les_len (S : List Int) (n : Nat) : (les S n).length ≤ S.length := List.length_filter_le ..
theorem les_mm {N n s : Nat} {S : List Int} (h : Mm N S s) (h25 : s < 2 ^ 25) (hn25 : n < 25) : Mm N (les S n) (del s n) :=
  ⟨del_lt h.lt, fun k hk => by
    unfold les
    rw [del_bit h25 hn25, List.mem_filter, Bool.and_eq_true, h.mem k hk]
    refine and_congr_right fun _ => ?_
    rw [decide_eq_true_eq, decide_eq_true_eq]
    constructor <;> intro h1 h2 <;> exact h1 (by omega)⟩
/-- The bales that make no difference, among the first. -/
def idleK (R C z s k : Nat) : List Nat := (els k s).filter fun n => (fin R C z (del s n)).testBit n
theorem idleK_zero (R C z s : Nat) : idleK R C z s 0 = [] := rfl
theorem idleK_fin (R C z s : Nat) : idleK R C z s (R * C) = idles R C z s := rfl
theorem idleK_succ (R C z s k : Nat) : idleK R C z s (k + 1) = idleK R C z s k ++ if s.testBit k = true ∧ (fin R C z (del s k)).testBit k = true then [k] else [] := by
  unfold idleK els
  rw [List.range_succ, List.filter_append, List.filter_append]
  congr 1
  cases h1 : s.testBit k with
  | false => simp [h1]
  | true =>
    cases h2 : (fin R C z (del s k)).testBit k <;> simp [h1, h2]
theorem idleK_len (R C z s k : Nat) : (idleK R C z s k).length ≤ k := by
  unfold idleK els
  refine Nat.le_trans (List.length_filter_le ..) (Nat.le_trans (List.length_filter_le ..) (by simp))
end Beetle09
