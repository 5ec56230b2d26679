/- Plain functions of arcs. -/
import Derived.Test.YtjedmiegcbdedaaPa
namespace Store11
/-- the last box of a room, of the first k boxes -/
def lastK (l : List Int) : Nat → Int → Option Int
  | 0 => fun _ => none
  | k + 1 => fun y => if y = l.getD k 0 then some (k : Int) else lastK l k y
def arcK (l : List Int) : Nat → List Int
  | 0 => List.replicate l.length 0
  | k + 1 => match lastK l k (l.getD k 0) with
    | some i => (arcK l k).set i.toNat (k : Int)
    | none => arcK l k
def arcR (l : List Int) : List Int := arcK l l.length
theorem lastK_lt (l : List Int) : ∀ (k : Nat) (y i : Int), lastK l k y = some i → 0 ≤ i ∧ i < k
  | 0, _, _, h => by cases h
  | k + 1, y, i, h => by
    rw [lastK] at h
    dsimp only at h
    split at h
    · cases h; omega
    · have := lastK_lt l k y i h; omega
theorem arcK_len (l : List Int) : ∀ k, (arcK l k).length = l.length
  | 0 => by simp [arcK]
  | k + 1 => by
    rw [arcK]
    split
    · rw [List.length_set, arcK_len l k]
    · exact arcK_len l k
theorem arcK_bound (l : List Int) : ∀ (k i : Nat), 0 ≤ (arcK l k).getD i 0 ∧ (arcK l k).getD i 0 ≤ k
  | 0, i => by
    rw [arcK]
    by_cases h : i < l.length
    · simp [List.getD, h]
    · simp [List.getD, h]
  | k + 1, i => by
    have ih := arcK_bound l k i
    rw [arcK]
    split
    · rename_i j hj
      by_cases h : j.toNat = i
      · by_cases h2 : i < (arcK l k).length
        · rw [h]; simp [List.getD, h2]; omega
        · have : ((arcK l k).set j.toNat (k : Int))[i]? = none := List.getElem?_eq_none (by simp; omega)
          simp [List.getD, this]; omega
      · rw [List.getD, List.getElem?_set_ne h, ← List.getD]; omega
    · omega
end Store11
namespace Store11
/-- one box more under an arc that ends at j -/
def stepC (N : List Int) (j : Int) (st : Int × Int) (k : Nat) : Int × Int :=
  if j < N.getD k 0 then (st.1 + 1, st.2) else if 0 < N.getD k 0 ∧ N.getD k 0 < j then (st.1, st.2 + 1) else st
def rowC (N : List Int) (i : Nat) (st : Int × Int) : Nat → Int × Int
  | 0 => st
  | m + 1 => stepC N (N.getD i 0) (rowC N i st m) (i + 1 + m)
def allC (N : List Int) : Nat → Int × Int
  | 0 => (0, 0)
  | i + 1 => rowC N i (allC N i) (N.getD i 0 - (i + 1)).toNat
/-- crossings and nestings -/
def cnR (l : List Int) : Int × Int := allC (arcR l) l.length
def cnL (l : List Int) : Int × Int := if chkL l = 0 then cnR l else (0, 0)
def flatE (l : List Int) : Int := if chkL l = 0 then (if 0 < (cnR l).1 then 13 else 0) else chkL l
theorem stepC_bound (N : List Int) (j : Int) (st : Int × Int) (k : Nat) (B : Int) (h : 0 ≤ st.1 ∧ 0 ≤ st.2 ∧ st.1 ≤ B ∧ st.2 ≤ B) : 0 ≤ (stepC N j st k).1 ∧ 0 ≤ (stepC N j st k).2 ∧ (stepC N j st k).1 ≤ B + 1 ∧ (stepC N j st k).2 ≤ B + 1 := by
  unfold stepC; split
  · simp; omega
  · split
    · simp; omega
    · omega
end Store11
namespace Store11
/-- how many boxes of each room are begun behind box i -/
def nowS (l N L : List Int) (i : Nat) : List Int :=
  let r := (l.getD i 0).toNat
  let s := L.set r (L.getD r 0 + 1)
  if N.getD i 0 = 0 then s.set r 0 else s
def nowK (l N : List Int) : Nat → List Int
  | 0 => List.replicate 9 0
  | i + 1 => nowS l N (nowK l N i) i
def gapK (l : List Int) : List (List Int) := (List.range l.length).map fun i => nowK l (arcR l) (i + 1)
def backK (l : List Int) : List (List Int) := (List.range l.length).map fun i => nowK l (arcR l) i
def gapL (l : List Int) : List Int := if flatE l = 0 then divL (gapK l) else []
def backL (l : List Int) : List Int := if flatE l = 0 then divL (backK l) else []
theorem nowS_len (l N L : List Int) (i : Nat) : (nowS l N L i).length = L.length := by unfold nowS; simp only; split <;> simp
theorem nowK_len (l N : List Int) : ∀ i, (nowK l N i).length = 9
  | 0 => by simp [nowK]
  | i + 1 => by rw [nowK, nowS_len, nowK_len l N i]
theorem set_bound (L : List Int) (r : Nat) (v B : Int) (hv : 0 ≤ v ∧ v ≤ B) (h : ∀ k, 0 ≤ L.getD k 0 ∧ L.getD k 0 ≤ B) : ∀ k, 0 ≤ (L.set r v).getD k 0 ∧ (L.set r v).getD k 0 ≤ B := by
  intro k
  by_cases hr : r = k
  · subst hr
    by_cases h2 : r < L.length
    · simp [List.getD, h2]; exact hv
    · have : (L.set r v)[r]? = none := List.getElem?_eq_none (by simp; omega)
      simp [List.getD, this]; omega
  · rw [List.getD, List.getElem?_set_ne hr, ← List.getD]; exact h k
theorem nowK_bound (l N : List Int) : ∀ i k, 0 ≤ (nowK l N i).getD k 0 ∧ (nowK l N i).getD k 0 ≤ i
  | 0, k => by
    have e : (List.replicate 9 (0 : Int)).getD k 0 = 0 := by rw [List.getD, List.getElem?_replicate]; split <;> rfl
    rw [nowK, e]; omega
  | i + 1, k => by
    have ih := nowK_bound l N i
    have h1 := ih (l.getD i 0).toNat
    have h2 := set_bound (nowK l N i) (l.getD i 0).toNat ((nowK l N i).getD (l.getD i 0).toNat 0 + 1) ((i : Int) + 1) (by omega) (fun k => by have := ih k; omega)
    rw [nowK, nowS]
    split
    · have := set_bound _ (l.getD i 0).toNat 0 ((i : Int) + 1) (by omega) h2 k; push_cast; exact this
    · have := h2 k; push_cast; exact this
end Store11
