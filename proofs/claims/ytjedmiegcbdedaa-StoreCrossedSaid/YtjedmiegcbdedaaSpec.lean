/- Plain functions of chapter 11: no program in sight. -/
import Init
namespace Store11
variable {α : Type}

theorem drop_getD (l : List Int) (k : Nat) (h : k < l.length) : l.drop k = l.getD k 0 :: l.drop (k + 1) := by
  rw [List.drop_eq_getElem_cons h]; simp [List.getD, h]
theorem take_succ_getD (l : List Int) (k : Nat) (h : k < l.length) : l.take (k + 1) = l.take k ++ [l.getD k 0] := by
  rw [List.take_succ_eq_append_getElem h]; simp [List.getD, h]

def sizeE (n : Nat) : Int := if n = 0 then 4 else if 9 < n then 3 else 0
/-- the error of a division, from a box on: so many rooms are begun -/
def chkG : Int → List Int → Int
  | _, [] => 0
  | next, r :: rs => if r < 0 then 1 else if next < r then 7 else if r = next then chkG (next + 1) rs else chkG next rs
def chkL (l : List Int) : Int := if sizeE l.length ≠ 0 then sizeE l.length else chkG 0 l

/-- the place of the first one -/
def fstI [DecidableEq α] : List α → α → Option Int
  | [], _ => none
  | y :: l, x => if x = y then some 0 else (fstI l x).map (· + 1)
/-- one more key: the keys that were met, the rooms so far -/
def divS [DecidableEq α] (st : List α × List Int) (x : α) : List α × List Int :=
  match fstI st.1 x with
  | some i => (st.1, st.2 ++ [i])
  | none => (st.1 ++ [x], st.2 ++ [(st.1.length : Int)])
/-- the division of keys -/
def divL [DecidableEq α] (keys : List α) : List Int := (keys.foldl divS ([], [])).2
theorem fstI_snoc [DecidableEq α] (x : α) : ∀ (l : List α), fstI l x = none → fstI (l ++ [x]) = fun y => if y = x then some (l.length : Int) else fstI l y
  | [], _ => by funext y; simp [fstI]
  | z :: l, h => by
    simp only [fstI] at h
    by_cases hz : x = z
    · rw [if_pos hz] at h; cases h
    · rw [if_neg hz] at h
      have h2 : fstI l x = none := by cases hf : fstI l x with
        | none => rfl
        | some v => rw [hf] at h; cases h
      funext y
      rw [List.cons_append, fstI, fstI_snoc x l h2, fstI]
      by_cases hy : y = z
      · subst hy; rw [if_pos rfl, if_pos rfl, if_neg (fun e => hz e.symm)]
      · rw [if_neg hy, if_neg hy]
        by_cases hyx : y = x
        · simp [hyx]
        · simp [hyx]

def ofL (l : List Int) : List Int := if sizeE l.length = 0 then divL l else []
def bothE (a b : List Int) : Int := if chkL a ≠ 0 then chkL a else if chkL b ≠ 0 then chkL b else if a.length ≠ b.length then 5 else 0
/-- two lists as a list of pairs -/
def zip2 (a b : List Int) : List (List Int) := (a.zip b).map fun x => [x.1, x.2]
def meetR (a b : List Int) : List Int := divL (zip2 a b)
def finerB (a b : List Int) : Bool := if bothE a b = 0 then meetR a b == a else false
def meetL (a b : List Int) : List Int := if bothE a b = 0 then meetR a b else []
theorem zip2_len (a b : List Int) (h : a.length = b.length) : (zip2 a b).length = a.length := by simp [zip2, h]
theorem zip2_get (a b : List Int) (k : Nat) (h : k < a.length) (h' : k < b.length) : (zip2 a b).getD k [] = [a.getD k 0, b.getD k 0] := by
  have e : (a.zip b)[k]? = some (a[k], b[k]) := by rw [List.getElem?_eq_getElem (by simp; omega)]; simp
  simp [zip2, List.getD, List.getElem?_map, e, h, h']
end Store11
