/- Plain facts of chapter 9: the reference's search for the first list. -/
import Derived.Test.YtbhjphcomppjgaaDoorPp
namespace Beetle09
set_option maxRecDepth 100000
/-- From where bales are tried. -/
def frm (b : List Nat) : Nat := match b.getLast? with
  | none => 0
  | some x => x + 1
theorem frm_snoc (b : List Nat) (n : Nat) : frm (b ++ [n]) = n + 1 := by simp [frm]
/-- A beginning: ascending. -/
structure Beg (N : Nat) (b : List Nat) : Prop where
  lt : ∀ i ∈ b, i < N
  srt : b.Pairwise (· < ·)
  up : ∀ i ∈ b, i < frm b
theorem Beg.nil (N : Nat) : Beg N [] := ⟨fun i hi => by simp at hi, List.Pairwise.nil, fun i hi => by simp at hi⟩
theorem Beg.snoc {N n : Nat} {b : List Nat} (h : Beg N b) (hn : n < N) (hf : frm b ≤ n) : Beg N (b ++ [n]) where
  lt i hi := by
    rcases List.mem_append.1 hi with hi | hi
    · exact h.lt i hi
    · simp at hi; omega
  srt := by
    rw [List.pairwise_append]
    refine ⟨h.srt, List.pairwise_singleton _ _, fun x hx y hy => ?_⟩
    simp at hy
    have := h.up x hx
    omega
  up i hi := by
    rw [frm_snoc]
    rcases List.mem_append.1 hi with hi | hi
    · have := h.up i hi; omega
    · simp at hi; omega
theorem Beg.gd {N : Nat} {b : List Nat} (h : Beg N b) : Gd N b := ⟨h.lt, h.srt.imp fun h => Nat.ne_of_lt h⟩
theorem drop_range {N n : Nat} (h : n < N) : (List.range N).drop n = n :: (List.range N).drop (n + 1) := by
  rw [List.drop_eq_getElem_cons (by simpa using h)]
  simp
theorem dfs_yes {p : List Nat → Nat → Bool} {g : List Nat → Bool} {N n m : Nat} {b l : List Nat} (h : n < N) (h1 : p (b ++ [n]) m = true) (h2 : dfs p g ((List.range N).drop (n + 1)) m (b ++ [n]) = some l) : dfs p g ((List.range N).drop n) (m + 1) b = some l := by
  rw [drop_range h, dfs, if_pos h1, h2]; rfl
theorem dfs_next {p : List Nat → Nat → Bool} {g : List Nat → Bool} {N n m : Nat} {b : List Nat} (h : n < N) (h1 : p (b ++ [n]) m = true) (h2 : dfs p g ((List.range N).drop (n + 1)) m (b ++ [n]) = none) : dfs p g ((List.range N).drop n) (m + 1) b = dfs p g ((List.range N).drop (n + 1)) (m + 1) b := by
  rw [drop_range h, dfs, if_pos h1, h2]; rfl
theorem dfs_skip {p : List Nat → Nat → Bool} {g : List Nat → Bool} {N n m : Nat} {b : List Nat} (h : n < N) (h1 : p (b ++ [n]) m = false) : dfs p g ((List.range N).drop n) (m + 1) b = dfs p g ((List.range N).drop (n + 1)) (m + 1) b := by
  rw [drop_range h, dfs, h1]; rfl
theorem dfs_end {p : List Nat → Nat → Bool} {g : List Nat → Bool} {N m : Nat} {b : List Nat} : dfs p g ((List.range N).drop N) (m + 1) b = none := by
  rw [List.drop_eq_nil_of_le (by simp)]; rfl
theorem els_all (R C : Nat) : els (R * C) (allS R C) = List.range (R * C) := by
  unfold els
  rw [List.filter_eq_self]
  intro i hi
  rw [allS_bit]
  exact decide_eq_true (List.mem_range.1 hi)
theorem pcN_full {N s : Nat} (hs : s < 2 ^ N) : pcN N s = N ↔ s = 2 ^ N - 1 := by
  constructor
  · intro h
    refine Nat.eq_of_testBit_eq fun i => ?_
    rw [pow_sub_one_bit]
    by_cases hi : i < N
    · rw [decide_eq_true hi]
      cases hb : s.testBit i with
      | true => rfl
      | false =>
        have := pcN_lt (N := N) (s := s) (t := 2 ^ N - 1) (x := i) (fun k hk => by rw [pow_sub_one_bit]; exact decide_eq_true (bit_lt hs hk)) hi hb (by rw [pow_sub_one_bit]; exact decide_eq_true hi)
        have h2 := pcN_le N (2 ^ N - 1)
        omega
    · rw [decide_eq_false hi]
      cases hb : s.testBit i with
      | false => rfl
      | true => exact absurd (bit_lt hs hb) hi
  · intro h
    rw [h]
    unfold pcN
    rw [List.countP_eq_length.2 (fun i hi => by rw [pow_sub_one_bit]; exact decide_eq_true (List.mem_range.1 hi))]
    simp
/-- The outline of a list of bales. -/
theorem outl_list {R C : Nat} {l : List Nat} (h : Gd (R * C) l) : outlL R C (setL l) l = outl R C (setL l) := by
  have hp := h.rd.perm_nat
  have e : (li l).map Int.toNat = l := by unfold li; rw [List.map_map]; exact (List.map_congr_left fun a _ => by simp).trans (List.map_id l)
  rw [e] at hp
  rw [outlL_perm hp, outlL_els]
  rfl
end Beetle09
