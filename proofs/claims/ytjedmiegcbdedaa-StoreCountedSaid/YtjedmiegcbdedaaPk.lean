/- Plain functions: all divisions, in ascending order. -/
import Derived.Test.YtjedmiegcbdedaaPg
namespace Store11
def goL : Nat → List Int → Nat → List (List Int)
  | 0, pre, _ => [pre]
  | m + 1, pre, k => (List.range (k + 1)).flatMap fun r : Nat => goL m (pre ++ [(r : Int)]) (max k (r + 1))
def allL (n : Nat) : List (List Int) := goL n [] 0
/-- how many behind so many first rooms -/
def offL (m : Nat) (pre : List Int) (k r : Nat) : Nat := ((List.range r).flatMap fun r : Nat => goL m (pre ++ [(r : Int)]) (max k (r + 1))).length
theorem offL_succ (m : Nat) (pre : List Int) (k r : Nat) : offL m pre k (r + 1) = offL m pre k r + (goL m (pre ++ [(r : Int)]) (max k (r + 1))).length := by
  unfold offL; rw [List.range_succ, List.flatMap_append, List.length_append]; simp
theorem goL_off (m : Nat) (pre : List Int) (k : Nat) : (goL (m + 1) pre k).length = offL m pre k (k + 1) := rfl
theorem flat_get {β : Type} (f : Nat → List β) : ∀ (K r : Nat), r < K → ∀ t, t < (f r).length → ((List.range K).flatMap f)[((List.range r).flatMap f).length + t]? = (f r)[t]?
  | K + 1, r, hr, t, ht => by
    rw [List.range_succ, List.flatMap_append]
    by_cases h : r = K
    · subst h
      rw [List.getElem?_append_right (by omega)]
      simp
    · have ih := flat_get f K r (by omega) t ht
      have hlt : ((List.range r).flatMap f).length + t < ((List.range K).flatMap f).length := by
        rw [List.getElem?_eq_getElem ht] at ih
        exact (List.getElem?_eq_some_iff.1 ih).1
      rw [List.getElem?_append_left hlt, ih]
theorem goL_get (m : Nat) (pre : List Int) (k r : Nat) (hr : r ≤ k) (t : Nat) (ht : t < (goL m (pre ++ [(r : Int)]) (max k (r + 1))).length) :
    (goL (m + 1) pre k)[offL m pre k r + t]? = (goL m (pre ++ [(r : Int)]) (max k (r + 1)))[t]? :=
  flat_get (fun r : Nat => goL m (pre ++ [(r : Int)]) (max k (r + 1))) (k + 1) r (by omega) t ht
end Store11
