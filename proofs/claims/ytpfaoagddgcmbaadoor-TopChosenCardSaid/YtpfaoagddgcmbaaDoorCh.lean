/- TopChosen: plain facts of all blends of at most seven leaves. -/
import Derived.Test.YtpfaoagddgcmbaaDoorTo
namespace Go.Proofs.YtpfaoagddgcmbaaDoor
open Go.RowKit Blend04 Grade03
set_option maxRecDepth 100000
def wantP (l : List Int) : Nat → Int
  | 0 => 0
  | i + 1 => wantP l i + (l.getD i 0 - (i : Int))
def ascC (n : Nat) (l : List Int) : Bool := (List.range l.length).all fun i => decide (0 ≤ l.getD i 0) && decide (l.getD i 0 ≤ (n : Int) - 1) && decide (prv l i < l.getD i 0)
theorem ascC_ok {n : Nat} {l : List Int} (h : ascC n l = true) : Asc n l := by
  intro i hi
  have := List.all_eq_true.1 h i (List.mem_range.2 hi)
  simp only [Bool.and_eq_true, decide_eq_true_eq] at this
  exact ⟨this.1.1, this.1.2, this.2⟩
def choC (n k num : Nat) : Bool :=
  let l := nthL k num
  let o := othL n l
  ascC n l && (ahdL n l).length == n && bothE (ahdL n l) (ahdL n o) == 0 && ((difL (ahdL n l) (ahdL n o)).length : Int) == (k : Int) * ((n : Int) - k) && wantP l k == wantL 0 l && o.length == n - k &&
  (chN n k == 1 || (ascC n (nthL k ((num + 1) % chN n k)) && (ahdL n (nthL k ((num + 1) % chN n k))).length == n))
theorem choC_all : ∀ n, n < 8 → 1 ≤ n → ((List.range (n + 1)).all fun k => (List.range (chN n k)).all fun m => choC n k m) = true := by decide +kernel
structure ChoF (n k num : Nat) (l : List Int) : Prop where
  v1 : 1 ≤ chN n k
  v35 : chN n k ≤ 35
  asc : Asc n l
  ck : chkE (ahdL n l) = 0
  len : (ahdL n l).length = n
  sum : sumL (codeL (ahdL n l)) = wantP l k
  maj : majL (ahdL n l) = 0 ∨ majL (ahdL n l) = (k : Int)
  mz : (majL (ahdL n l) = 0) = (sumL (codeL (ahdL n l)) = 0)
  both : bothE (ahdL n l) (ahdL n (othL n l)) = 0
  dif : ((difL (ahdL n l) (ahdL n (othL n l))).length : Int) = (k : Int) * ((n : Int) - k)
  nmb : numG l k = (num : Int)
  next : chN n k ≠ 1 → Asc n (nthL k ((num + 1) % chN n k)) ∧ chkE (ahdL n (nthL k ((num + 1) % chN n k))) = 0 ∧ (ahdL n (nthL k ((num + 1) % chN n k))).length = n ∧ sumL (codeL (ahdL n (nthL k ((num + 1) % chN n k)))) - sumL (codeL (ahdL n l)) = missL (nthL k ((num + 1) % chN n k)) l - missL l (nthL k ((num + 1) % chN n k))
theorem cho_facts {n k num : Nat} (h1 : 1 ≤ n) (h7 : n ≤ 7) (hk : k ≤ n) (hm : num < chN n k) : ChoF n k num (nthL k num) := by
  have a := List.all_eq_true.1 (choC_all n (by omega) h1) k (List.mem_range.2 (by omega))
  have a := List.all_eq_true.1 a num (List.mem_range.2 hm)
  have b := List.all_eq_true.1 (cho_all n (by omega) h1) k (List.mem_range.2 (by omega))
  simp only [Bool.and_eq_true, decide_eq_true_eq] at b
  obtain ⟨⟨b1, b2⟩, b3⟩ := b
  have b := List.all_eq_true.1 b3 num (List.mem_range.2 hm)
  simp only [choC, Bool.and_eq_true, Bool.or_eq_true, beq_iff_eq] at a
  simp only [choB, Bool.and_eq_true, Bool.or_eq_true, beq_iff_eq] at b
  obtain ⟨⟨⟨⟨⟨⟨c1, c2⟩, c3⟩, c4⟩, c5⟩, c6⟩, c7⟩ := a
  obtain ⟨⟨⟨⟨⟨⟨⟨⟨d1, d2⟩, d3⟩, d4⟩, d5⟩, d6⟩, d7⟩, d8⟩, d9⟩ := b
  refine ⟨b1, b2, ascC_ok c1, d2, c2, by rw [d3, c5], d4, ?_, c3, c4, d8, fun hne => ?_⟩
  · have h := Bool.eq_iff_iff.1 d5
    simp only [beq_iff_eq] at h
    exact propext h
  · rcases c7 with h | h
    · exact absurd h hne
    · rcases d9 with h' | h'
      · exact absurd h' hne
      · exact ⟨ascC_ok h.1, h'.1.2, h.2, h'.2⟩
end Go.Proofs.YtpfaoagddgcmbaaDoor
