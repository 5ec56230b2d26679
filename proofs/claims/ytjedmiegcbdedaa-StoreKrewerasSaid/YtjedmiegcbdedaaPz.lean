/- Plain facts of chapter 11: divisions of gaps: all divisions are tried. -/
import Derived.Test.YtjedmiegcbdedaaPk
import Derived.Test.YtjedmiegcbdedaaPm
namespace Store11
set_option maxRecDepth 100000
/-- box k lies behind i, up to j -/
def inJ (i j k : Nat) : Bool := decide (i < k) && decide (k ≤ j)
def inR (l : List Int) (r i j : Nat) (k : Nat) : Bool := (List.range k).any fun k => decide (l.getD k 0 = (r : Int)) && inJ i j k
def outR (l : List Int) (r i j : Nat) (k : Nat) : Bool := (List.range k).any fun k => decide (l.getD k 0 = (r : Int)) && !inJ i j k
/-- no room, of the first so many, is parted -/
def wholeR (l : List Int) (i j r : Nat) : Bool := (List.range r).all fun r => !(inR l r i j l.length && outR l r i j l.length)
theorem inR_succ (l : List Int) (r i j k : Nat) : inR l r i j (k + 1) = (inR l r i j k || (decide (l.getD k 0 = (r : Int)) && inJ i j k)) := by
  unfold inR; rw [List.range_succ, List.any_append]; simp
theorem outR_succ (l : List Int) (r i j k : Nat) : outR l r i j (k + 1) = (outR l r i j k || (decide (l.getD k 0 = (r : Int)) && !inJ i j k)) := by
  unfold outR; rw [List.range_succ, List.any_append]; simp
theorem wholeR_succ (l : List Int) (i j r : Nat) : wholeR l i j (r + 1) = (wholeR l i j r && !(inR l r i j l.length && outR l r i j l.length)) := by
  unfold wholeR; rw [List.range_succ, List.all_append]; simp
def smL (n : Nat) (l : List Int) : Bool := l.length == n && l.all fun x => decide (0 ≤ x) && decide (x < 7)
def defB (l g : List Int) : Bool := (List.range l.length).all fun j => (List.range j).all fun i => wholeR l i j (roomsN l).toNat == decide (g.getD i 0 = g.getD j 0)
/-- what holds of a division -/
def krewB (n : Nat) (l : List Int) : Bool :=
  smL n l && chkL l == 0 && decide (1 ≤ roomsN l ∧ roomsN l ≤ 7) && decide (0 ≤ (cnX l).1 ∧ (cnX l).1 ≤ 100) &&
  (if 0 < (cnX l).1 then flatE l == 13 else
    flatE l == 0 && smL n (gapL l) && smL n (backL l) && chkL (gapL l) == 0 && decide (1 ≤ roomsN (gapL l) ∧ roomsN (gapL l) ≤ 7) && roomsN (gapL l) + roomsN l == (n : Int) + 1 && (cnX (gapL l)).1 == 0 && flatE (gapL l) == 0 && backL (gapL l) == l && flatE (backL l) == 0 && gapL (backL l) == l && defB l (gapL l))
theorem krew_all : ∀ n, n < 7 → 1 ≤ n → ((allL n).all (krewB n)) = true := by decide +kernel
def flatC (L : List (List Int)) : Nat := L.countP fun l => decide ((cnX l).1 = 0)
theorem krew_cnt : ∀ n, n < 7 → 1 ≤ n → (flatC (allL n) : Int) = flatV n ∧ countE n = 0 ∧ (allL n).length < 1000 := by decide +kernel
theorem allL_nodup : ∀ n, n < 7 → 1 ≤ n → (allL n).Nodup := by decide +kernel
structure KrewC (n : Nat) (l : List Int) : Prop where
  fl : flatE l = 0
  gs : smL n (gapL l) = true
  bs : smL n (backL l) = true
  gc : chkL (gapL l) = 0
  gr : 1 ≤ roomsN (gapL l) ∧ roomsN (gapL l) ≤ 7
  rs : roomsN (gapL l) + roomsN l = (n : Int) + 1
  gx : (cnX (gapL l)).1 = 0
  gf : flatE (gapL l) = 0
  gb : backL (gapL l) = l
  bf : flatE (backL l) = 0
  bg : gapL (backL l) = l
  df : defB l (gapL l) = true
theorem krew_get {n : Nat} (hn : n < 7) (h1 : 1 ≤ n) {l : List Int} (h : l ∈ allL n) : smL n l = true ∧ chkL l = 0 ∧ (1 ≤ roomsN l ∧ roomsN l ≤ 7) ∧ (0 ≤ (cnX l).1 ∧ (cnX l).1 ≤ 100) ∧ (0 < (cnX l).1 → flatE l = 13) ∧ (¬ 0 < (cnX l).1 → KrewC n l) := by
  have := List.all_eq_true.1 (krew_all n hn h1) l h
  unfold krewB at this
  simp only [Bool.and_eq_true, beq_iff_eq, decide_eq_true_eq] at this
  obtain ⟨⟨⟨⟨a, b⟩, c⟩, d⟩, e⟩ := this
  refine ⟨a, b, c, d, fun h => ?_, fun h => ?_⟩
  · rw [if_pos h] at e; simpa using e
  · rw [if_neg h] at e
    simp only [Bool.and_eq_true, beq_iff_eq, decide_eq_true_eq] at e
    obtain ⟨⟨⟨⟨⟨⟨⟨⟨⟨⟨⟨e1, e2⟩, e3⟩, e4⟩, e5⟩, e6⟩, e7⟩, e8⟩, e9⟩, e10⟩, e11⟩, e12⟩ := e
    exact ⟨e1, e2, e3, e4, e5, e6, e7, e8, e9, e10, e11, e12⟩
theorem smL_get {n : Nat} {l : List Int} (h : smL n l = true) : l.length = n ∧ ∀ i, i < n → 0 ≤ l.getD i 0 ∧ l.getD i 0 < 7 := by
  unfold smL at h
  simp only [Bool.and_eq_true, beq_iff_eq, List.all_eq_true, decide_eq_true_eq] at h
  refine ⟨h.1, fun i hi => ?_⟩
  have hi2 : i < l.length := by omega
  have := h.2 _ (List.getElem_mem hi2)
  simpa [List.getD, hi2] using this
theorem defB_get {l g : List Int} (h : defB l g = true) {i j : Nat} (hj : j < l.length) (hi : i < j) : wholeR l i j (roomsN l).toNat = decide (g.getD i 0 = g.getD j 0) := by
  unfold defB at h
  have := List.all_eq_true.1 (List.all_eq_true.1 h j (List.mem_range.2 hj)) i (List.mem_range.2 hi)
  simpa using this
theorem gap_inj {n : Nat} {a b : List Int} (ha : KrewC n a) (hb : KrewC n b) (h : gapL a = gapL b) : a = b := by rw [← ha.gb, h, hb.gb]
end Store11
