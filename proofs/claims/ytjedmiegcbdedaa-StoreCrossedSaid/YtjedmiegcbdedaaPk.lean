/- Plain functions: all divisions, in ascending order. -/
import Derived.Test.YtjedmiegcbdedaaPg
import Derived.Test.YtjedmiegcbdedaaPa
import Derived.Test.YtjedmiegcbdedaaPb
namespace Store11
def goL : Nat → List Int → Nat → List (List Int)
  | 0, pre, _ => [pre]
  | m + 1, pre, k => (List.range (k + 1)).flatMap fun r : Nat => goL m (pre ++ [(r : Int)]) (max k (r + 1))
def allL (n : Nat) : List (List Int) := goL n [] 0
/-- how many behind so many first rooms -/
def offL (m : Nat) (pre : List Int) (k r : Nat) : Nat := ((List.range r).flatMap fun r : Nat => goL m (pre ++ [(r : Int)]) (max k (r + 1))).length
theorem offL_succ (m : Nat) (pre : List Int) (k r : Nat) : offL m pre k (r + 1) = offL m pre k r + (goL m (pre ++ [(r : Int)]) (max k (r + 1))).length := by
  unfold offL; rw [List.range_succ, List.flatMap_append, List.length_append]; simp
theorem goL_off (m : Nat) (pre : List Int) (k : Nat) : (goL (m + 1) pre k).length = offL m pre k (k + 1) := rfl
theorem flat_get {β : Type} (f : Nat → List β) : ∀ (K r : Nat), r < K → ∀ t, t < (f r).length → ((List.range K).flatMap f)[((List.range r).flatMap f).length + t]? = (f r)[t]?
  | K + 1, r, hr, t, ht => by
    rw [List.range_succ, List.flatMap_append]
    by_cases h : r = K
    · subst h
      rw [List.getElem?_append_right (by omega)]
      simp
    · have ih := flat_get f K r (by omega) t ht
      have hlt : ((List.range r).flatMap f).length + t < ((List.range K).flatMap f).length := by
        rw [List.getElem?_eq_getElem ht] at ih
        exact (List.getElem?_eq_some_iff.1 ih).1
      rw [List.getElem?_append_left hlt, ih]
theorem goL_get (m : Nat) (pre : List Int) (k r : Nat) (hr : r ≤ k) (t : Nat) (ht : t < (goL m (pre ++ [(r : Int)]) (max k (r + 1))).length) :
    (goL (m + 1) pre k)[offL m pre k r + t]? = (goL m (pre ++ [(r : Int)]) (max k (r + 1)))[t]? :=
  flat_get (fun r : Nat => goL m (pre ++ [(r : Int)]) (max k (r + 1))) (k + 1) r (by omega) t ht
end Store11
namespace Store11
set_option maxRecDepth 100000
/-- the greatest of the first k+1 -/
def mxT (l : List Int) : Nat → Int
  | 0 => l.getD 0 0
  | k + 1 => if mxT l k < l.getD (k + 1) 0 then l.getD (k + 1) 0 else mxT l k
def roomsN (l : List Int) : Int := mxT l (l.length - 1) + 1
def goodN (n : Nat) (x : List Int × Nat) : Bool := x.1.length == n && numV x.1 == (x.2 : Int) && atL n x.2 == x.1 && chkL x.1 == 0 && ofL x.1 == x.1 && decide (1 ≤ roomsN x.1 ∧ roomsN x.1 ≤ n) && x.1.all (fun r => decide (0 ≤ r ∧ r < n))
theorem good_all : ∀ n, n < 8 → 1 ≤ n → ((allL n).zipIdx.all (goodN n)) = true := by decide +kernel
def histN (n i k : Nat) : Nat := ((allL n).take i).countP (fun l => roomsN l == k)
theorem hist_all : ∀ n, n < 8 → 1 ≤ n → ∀ k, k < 8 → 1 ≤ k → k ≤ n → (histN n (allL n).length k : Int) = intoV n k := by decide +kernel
theorem count_all : ∀ n, n < 8 → 1 ≤ n → ((allL n).length : Int) = countV n ∧ (allL n).length < 1000 ∧ countE n = 0 ∧ atE n (allL n).length = 1 ∧ intoE n (n+1) = 1 ∧ intoE n 0 = 1 := by decide +kernel
theorem good_get {n : Nat} (hn : n < 8) (h1 : 1 ≤ n) {i : Nat} {l : List Int} (h : (allL n)[i]? = some l) :
    l.length = n ∧ numV l = (i : Int) ∧ atL n i = l ∧ chkL l = 0 ∧ ofL l = l ∧ (1 ≤ roomsN l ∧ roomsN l ≤ n) ∧ ∀ r ∈ l, 0 ≤ r ∧ r < n := by
  have := List.all_eq_true.1 (good_all n hn h1) (l, i) (by rw [List.mem_zipIdx_iff_getElem?]; exact h)
  simp only [goodN, Bool.and_eq_true, beq_iff_eq, decide_eq_true_eq, List.all_eq_true] at this
  obtain ⟨⟨⟨⟨⟨⟨h1, h2⟩, h3⟩, h4⟩, h5⟩, h6⟩, h7⟩ := this
  exact ⟨h1, h2, h3, h4, h5, h6, h7⟩
theorem hist_succ {n i : Nat} {l : List Int} (h : (allL n)[i]? = some l) (k : Nat) : histN n (i + 1) k = histN n i k + (if roomsN l = k then 1 else 0) := by
  unfold histN
  rw [List.take_add_one, h, List.countP_append]
  simp [List.countP_cons]
theorem hist_le (n i k : Nat) : histN n i k ≤ (allL n).length := by
  unfold histN
  exact Nat.le_trans List.countP_le_length (by rw [List.length_take]; exact Nat.min_le_right _ _)
end Store11
