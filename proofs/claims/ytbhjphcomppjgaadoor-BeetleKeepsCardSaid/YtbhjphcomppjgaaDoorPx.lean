/- Plain facts of chapter 9: the reference's search for the fewest to be frozen. -/
import Derived.Test.YtbhjphcomppjgaaDoorPw
import Derived.Test.YtbhjphcomppjgaaDoorPm
namespace Beetle09
set_option maxRecDepth 100000
/-- Those left out by a set are those passed over. -/
theorem dfs_filter {g : List Nat → Bool} {F : Nat} : ∀ (L : List Nat) (m : Nat) (b : List Nat), dfs (fun l _ => F.testBit (l.getLastD 0)) g L m b = dfs (fun _ _ => true) g (L.filter F.testBit) m b
  | L, 0, b => by rw [dfs_zero, dfs_zero]
  | [], m + 1, b => rfl
  | n :: r, m + 1, b => by
    have e : (b ++ [n]).getLastD 0 = n := by simp
    rw [dfs, e]
    cases h : F.testBit n with
    | true =>
      rw [List.filter_cons_of_pos h, dfs, if_pos rfl, if_pos rfl, dfs_filter r m, dfs_filter r (m + 1)]
    | false =>
      rw [List.filter_cons_of_neg (by rw [h]; simp), if_neg (by simp), dfs_filter r (m + 1)]
abbrev kpPP (R C s z x : Nat) (l : List Nat) (_ : Nat) : Bool := (kpF R C s z x).testBit (l.getLastD 0)
abbrev kpGG (R C s z x : Nat) (l : List Nat) : Bool := kpG R C s z x (setL l)
theorem kpD_eq (R C s z x m : Nat) : kpD R C s z x m = dfs (kpPP R C s z x) (kpGG R C s z x) (List.range (R * C)) m [] := (dfs_filter (List.range (R * C)) m []).symm
theorem kpPP_snoc {R C s z x m i : Nat} {b : List Nat} (h25 : R * C ≤ 25) (hs : s < 2 ^ 25) (hz : z < 2 ^ 25) (hx : x < 25) (hi : i < R * C) : kpPP R C s z x (b ++ [i]) m = (!s.testBit i && (!z.testBit i && decide (x ≠ i))) := by
  have e : (b ++ [i]).getLastD 0 = i := by simp
  rw [kpPP, e, kpF_bit h25 hs hz hx, decide_eq_true hi, Bool.true_and]
theorem frz_mm {N z : Nat} {F : List Int} {b : List Nat} (h : Mm N F z) (hb : ∀ i ∈ b, i < N) : Mm N (F ++ li b) (z ||| setL b) := ⟨Nat.or_lt_two_pow h.lt (setL_lt hb), fun k hk => by
  rw [Nat.testBit_or, Bool.or_eq_true, h.mem k hk, setL_bit, decide_eq_true_eq, List.mem_append, mem_li]⟩
theorem Beg.frm_le2 {N : Nat} {b : List Nat} (h : Beg N b) : frm b ≤ N := by
  unfold frm
  cases hl : b.getLast? with
  | none => exact Nat.zero_le _
  | some x => exact h.lt x (List.mem_of_getLast? hl)
end Beetle09
