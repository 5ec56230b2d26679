/- Plain functions: rooms; what holds of all divisions. -/
import Derived.Test.YtjedmiegcbdedaaPk
import Derived.Test.YtjedmiegcbdedaaPd
import Derived.Test.YtjedmiegcbdedaaPc
namespace Store11
set_option maxRecDepth 100000
/-- the greatest of the first k+1 -/
def mxT (l : List Int) : Nat → Int
  | 0 => l.getD 0 0
  | k + 1 => if mxT l k < l.getD (k + 1) 0 then l.getD (k + 1) 0 else mxT l k
def roomsN (l : List Int) : Int := mxT l (l.length - 1) + 1
def goodN (n : Nat) (x : List Int × Nat) : Bool := x.1.length == n && numV x.1 == (x.2 : Int) && atL n x.2 == x.1 && chkL x.1 == 0 && ofL x.1 == x.1 && decide (1 ≤ roomsN x.1 ∧ roomsN x.1 ≤ n) && x.1.all (fun r => decide (0 ≤ r ∧ r < n))
theorem good_all : ∀ n, n < 8 → 1 ≤ n → ((allL n).zipIdx.all (goodN n)) = true := by decide +kernel
def histN (n i k : Nat) : Nat := ((allL n).take i).countP (fun l => roomsN l == k)
theorem hist_all : ∀ n, n < 8 → 1 ≤ n → ∀ k, k < 8 → 1 ≤ k → k ≤ n → (histN n (allL n).length k : Int) = intoV n k := by decide +kernel
theorem count_all : ∀ n, n < 8 → 1 ≤ n → ((allL n).length : Int) = countV n ∧ (allL n).length < 1000 ∧ countE n = 0 ∧ atE n (allL n).length = 1 ∧ intoE n (n+1) = 1 ∧ intoE n 0 = 1 := by decide +kernel
theorem good_get {n : Nat} (hn : n < 8) (h1 : 1 ≤ n) {i : Nat} {l : List Int} (h : (allL n)[i]? = some l) :
    l.length = n ∧ numV l = (i : Int) ∧ atL n i = l ∧ chkL l = 0 ∧ ofL l = l ∧ (1 ≤ roomsN l ∧ roomsN l ≤ n) ∧ ∀ r ∈ l, 0 ≤ r ∧ r < n := by
  have := List.all_eq_true.1 (good_all n hn h1) (l, i) (by rw [List.mem_zipIdx_iff_getElem?]; exact h)
  simp only [goodN, Bool.and_eq_true, beq_iff_eq, decide_eq_true_eq, List.all_eq_true] at this
  obtain ⟨⟨⟨⟨⟨⟨h1, h2⟩, h3⟩, h4⟩, h5⟩, h6⟩, h7⟩ := this
  exact ⟨h1, h2, h3, h4, h5, h6, h7⟩
theorem hist_succ {n i : Nat} {l : List Int} (h : (allL n)[i]? = some l) (k : Nat) : histN n (i + 1) k = histN n i k + (if roomsN l = k then 1 else 0) := by
  unfold histN
  rw [List.take_add_one, h, List.countP_append]
  simp [List.countP_cons]
theorem hist_le (n i k : Nat) : histN n i k ≤ (allL n).length := by
  unfold histN
  exact Nat.le_trans List.countP_le_length (by rw [List.length_take]; exact Nat.min_le_right _ _)
end Store11
