/- Plain law of Join: a forest of parents, and its roots. -/
import Derived.Test.YtjedmiegcbdedaaSpec
namespace Store11

structure Forest (P rt : Nat → Nat) : Prop where
  lt : ∀ x, x < 18 → rt x < 18
  plt : ∀ x, x < 18 → P x < 18
  fix : ∀ x, x < 18 → P (rt x) = rt x
  root : ∀ x, x < 18 → P x = x → rt x = x
  par : ∀ x, x < 18 → rt (P x) = rt x
  dep : ∃ d : Nat → Nat, ∀ x, x < 18 → P x ≠ x → d (P x) < d x

theorem Forest.start : Forest (fun x => x) (fun x => x) := ⟨fun _ h => h, fun _ h => h, fun _ _ => rfl, fun _ _ _ => rfl, fun _ _ => rfl, fun _ => 0, fun _ _ h => absurd rfl h⟩
theorem Forest.idem {P rt : Nat → Nat} (h : Forest P rt) (x : Nat) (hx : x < 18) : rt (rt x) = rt x := h.root _ (h.lt x hx) (h.fix x hx)

def linkR (rt : Nat → Nat) (x y : Nat) : Nat → Nat := fun z => if rt z = rt x then rt y else rt z
def linkP (P rt : Nat → Nat) (x y : Nat) : Nat → Nat := fun z => if z = rt x then rt y else P z

theorem Forest.link {P rt : Nat → Nat} (h : Forest P rt) {x y : Nat} (hx : x < 18) (hy : y < 18) : Forest (linkP P rt x y) (linkR rt x y) := by
  have ix := h.idem x hx
  have iy := h.idem y hy
  refine ⟨fun z hz => ?_, fun z hz => ?_, fun z hz => ?_, fun z hz hp => ?_, fun z hz => ?_, ?_⟩
  · unfold linkR; split
    · exact h.lt y hy
    · exact h.lt z hz
  · unfold linkP; split
    · exact h.lt y hy
    · exact h.plt z hz
  · unfold linkR linkP
    by_cases h1 : rt z = rt x
    · rw [if_pos h1]
      by_cases h2 : rt y = rt x
      · rw [if_pos h2]
      · rw [if_neg h2]; exact h.fix y hy
    · rw [if_neg h1, if_neg h1]; exact h.fix z hz
  · unfold linkP at hp
    unfold linkR
    by_cases h1 : z = rt x
    · rw [if_pos h1] at hp
      rw [if_pos (by rw [h1, ix]), hp]
    · rw [if_neg h1] at hp
      have := h.root z hz hp
      rw [if_neg (by rw [this]; exact h1), this]
  · unfold linkP linkR
    by_cases h1 : z = rt x
    · rw [if_pos h1]
      subst h1
      rw [ix, if_pos rfl, iy]
      split <;> rfl
    · rw [if_neg h1, h.par z hz]
  · obtain ⟨d, hd⟩ := h.dep
    by_cases hxy : rt y = rt x
    · refine ⟨d, fun z hz hp => ?_⟩
      unfold linkP at hp ⊢
      by_cases h1 : z = rt x
      · rw [if_pos h1] at hp; exact absurd (by rw [hxy, h1]) hp
      · rw [if_neg h1] at hp ⊢; exact hd z hz hp
    · refine ⟨fun z => if rt z = rt x then d z + d (rt y) + 1 else d z, fun z hz hp => ?_⟩
      unfold linkP at hp ⊢
      by_cases h1 : z = rt x
      · rw [if_pos h1]
        simp only
        rw [if_neg (by rw [iy]; exact hxy), if_pos (by rw [h1, ix])]
        omega
      · rw [if_neg h1] at hp ⊢
        simp only
        rw [h.par z hz]
        have := hd z hz hp
        split <;> omega

/-- the roots behind all boxes up to k -/
def rtK (a b : List Int) : Nat → Nat → Nat
  | 0 => fun x => x
  | k + 1 => linkR (rtK a b k) (a.getD k 0).toNat (9 + (b.getD k 0).toNat)
def pK (a b : List Int) : Nat → Nat → Nat
  | 0 => fun x => x
  | k + 1 => linkP (pK a b k) (rtK a b k) (a.getD k 0).toNat (9 + (b.getD k 0).toNat)
theorem forest_K (a b : List Int) (n : Nat) (ha : ∀ k, k < n → 0 ≤ a.getD k 0 ∧ a.getD k 0 < 9) (hb : ∀ k, k < n → 0 ≤ b.getD k 0 ∧ b.getD k 0 < 9) : ∀ k, k ≤ n → Forest (pK a b k) (rtK a b k)
  | 0, _ => Forest.start
  | k + 1, h => by
    have h1 := ha k (by omega)
    have h2 := hb k (by omega)
    exact (forest_K a b n ha hb k (by omega)).link (by omega) (by omega)

/-- the keys of Join -/
def joinK (a b : List Int) : List Int := a.map fun x => ((rtK a b a.length x.toNat : Nat) : Int)
def joinR (a b : List Int) : List Int := divL (joinK a b)
def joinL (a b : List Int) : List Int := if bothE a b = 0 then joinR a b else []

theorem chkG_bound : ∀ (l : List Int) (x : Nat), chkG x l = 0 → ∀ k, k < l.length → 0 ≤ l.getD k 0 ∧ l.getD k 0 ≤ x + k
  | [], _, _, k, hk => by simp at hk
  | r :: l, x, h, k, hk => by
    rw [chkG] at h
    split at h
    · omega
    · split at h
      · omega
      · split at h
        · have ih := chkG_bound l (x + 1) h
          cases k with
          | zero => simp; omega
          | succ k => have := ih k (by simpa using hk); simp only [List.getD_cons_succ]; omega
        · have ih := chkG_bound l x h
          cases k with
          | zero => simp; omega
          | succ k => have := ih k (by simpa using hk); simp only [List.getD_cons_succ]; omega
theorem chkL_bound {l : List Int} (h : chkL l = 0) (k : Nat) (hk : k < l.length) : 0 ≤ l.getD k 0 ∧ l.getD k 0 ≤ k := by
  unfold chkL at h
  split at h
  · omega
  · have := chkG_bound l 0 h k hk; omega
end Store11
namespace Store11
/-- the last box of a room, of the first k boxes -/
def lastK (l : List Int) : Nat → Int → Option Int
  | 0 => fun _ => none
  | k + 1 => fun y => if y = l.getD k 0 then some (k : Int) else lastK l k y
def arcK (l : List Int) : Nat → List Int
  | 0 => List.replicate l.length 0
  | k + 1 => match lastK l k (l.getD k 0) with
    | some i => (arcK l k).set i.toNat (k : Int)
    | none => arcK l k
def arcR (l : List Int) : List Int := arcK l l.length
theorem lastK_lt (l : List Int) : ∀ (k : Nat) (y i : Int), lastK l k y = some i → 0 ≤ i ∧ i < k
  | 0, _, _, h => by cases h
  | k + 1, y, i, h => by
    rw [lastK] at h
    dsimp only at h
    split at h
    · cases h; omega
    · have := lastK_lt l k y i h; omega
theorem arcK_len (l : List Int) : ∀ k, (arcK l k).length = l.length
  | 0 => by simp [arcK]
  | k + 1 => by
    rw [arcK]
    split
    · rw [List.length_set, arcK_len l k]
    · exact arcK_len l k
theorem arcK_bound (l : List Int) : ∀ (k i : Nat), 0 ≤ (arcK l k).getD i 0 ∧ (arcK l k).getD i 0 ≤ k
  | 0, i => by
    rw [arcK]
    by_cases h : i < l.length
    · simp [List.getD, h]
    · simp [List.getD, h]
  | k + 1, i => by
    have ih := arcK_bound l k i
    rw [arcK]
    split
    · rename_i j hj
      by_cases h : j.toNat = i
      · by_cases h2 : i < (arcK l k).length
        · rw [h]; simp [List.getD, h2]; omega
        · have : ((arcK l k).set j.toNat (k : Int))[i]? = none := List.getElem?_eq_none (by simp; omega)
          simp [List.getD, this]; omega
      · rw [List.getD, List.getElem?_set_ne h, ← List.getD]; omega
    · omega
end Store11
namespace Store11
/-- one box more under an arc that ends at j -/
def stepC (N : List Int) (j : Int) (st : Int × Int) (k : Nat) : Int × Int :=
  if j < N.getD k 0 then (st.1 + 1, st.2) else if 0 < N.getD k 0 ∧ N.getD k 0 < j then (st.1, st.2 + 1) else st
def rowC (N : List Int) (i : Nat) (st : Int × Int) : Nat → Int × Int
  | 0 => st
  | m + 1 => stepC N (N.getD i 0) (rowC N i st m) (i + 1 + m)
def allC (N : List Int) : Nat → Int × Int
  | 0 => (0, 0)
  | i + 1 => rowC N i (allC N i) (N.getD i 0 - (i + 1)).toNat
/-- crossings and nestings -/
def cnR (l : List Int) : Int × Int := allC (arcR l) l.length
def cnL (l : List Int) : Int × Int := if chkL l = 0 then cnR l else (0, 0)
def flatE (l : List Int) : Int := if chkL l = 0 then (if 0 < (cnR l).1 then 13 else 0) else chkL l
theorem stepC_bound (N : List Int) (j : Int) (st : Int × Int) (k : Nat) (B : Int) (h : 0 ≤ st.1 ∧ 0 ≤ st.2 ∧ st.1 ≤ B ∧ st.2 ≤ B) : 0 ≤ (stepC N j st k).1 ∧ 0 ≤ (stepC N j st k).2 ∧ (stepC N j st k).1 ≤ B + 1 ∧ (stepC N j st k).2 ≤ B + 1 := by
  unfold stepC; split
  · simp; omega
  · split
    · simp; omega
    · omega
end Store11
namespace Store11
/-- how many boxes of each room are begun behind box i -/
def nowS (l N L : List Int) (i : Nat) : List Int :=
  let r := (l.getD i 0).toNat
  let s := L.set r (L.getD r 0 + 1)
  if N.getD i 0 = 0 then s.set r 0 else s
def nowK (l N : List Int) : Nat → List Int
  | 0 => List.replicate 9 0
  | i + 1 => nowS l N (nowK l N i) i
def gapK (l : List Int) : List (List Int) := (List.range l.length).map fun i => nowK l (arcR l) (i + 1)
def backK (l : List Int) : List (List Int) := (List.range l.length).map fun i => nowK l (arcR l) i
def gapL (l : List Int) : List Int := if flatE l = 0 then divL (gapK l) else []
def backL (l : List Int) : List Int := if flatE l = 0 then divL (backK l) else []
theorem nowS_len (l N L : List Int) (i : Nat) : (nowS l N L i).length = L.length := by unfold nowS; simp only; split <;> simp
theorem nowK_len (l N : List Int) : ∀ i, (nowK l N i).length = 9
  | 0 => by simp [nowK]
  | i + 1 => by rw [nowK, nowS_len, nowK_len l N i]
theorem set_bound (L : List Int) (r : Nat) (v B : Int) (hv : 0 ≤ v ∧ v ≤ B) (h : ∀ k, 0 ≤ L.getD k 0 ∧ L.getD k 0 ≤ B) : ∀ k, 0 ≤ (L.set r v).getD k 0 ∧ (L.set r v).getD k 0 ≤ B := by
  intro k
  by_cases hr : r = k
  · subst hr
    by_cases h2 : r < L.length
    · simp [List.getD, h2]; exact hv
    · have : (L.set r v)[r]? = none := List.getElem?_eq_none (by simp; omega)
      simp [List.getD, this]; omega
  · rw [List.getD, List.getElem?_set_ne hr, ← List.getD]; exact h k
theorem nowK_bound (l N : List Int) : ∀ i k, 0 ≤ (nowK l N i).getD k 0 ∧ (nowK l N i).getD k 0 ≤ i
  | 0, k => by
    have e : (List.replicate 9 (0 : Int)).getD k 0 = 0 := by rw [List.getD, List.getElem?_replicate]; split <;> rfl
    rw [nowK, e]; omega
  | i + 1, k => by
    have ih := nowK_bound l N i
    have h1 := ih (l.getD i 0).toNat
    have h2 := set_bound (nowK l N i) (l.getD i 0).toNat ((nowK l N i).getD (l.getD i 0).toNat 0 + 1) ((i : Int) + 1) (by omega) (fun k => by have := ih k; omega)
    rw [nowK, nowS]
    split
    · have := set_bound _ (l.getD i 0).toNat 0 ((i : Int) + 1) (by omega) h2 k; push_cast; exact this
    · have := h2 k; push_cast; exact this
end Store11
