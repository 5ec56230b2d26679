/- Plain functions: arcs as pairs. -/
import Derived.Test.YtjedmiegcbdedaaPa
import Derived.Test.YtjedmiegcbdedaaSpec
namespace Store11
def idxV : Option Int → Int
  | some k => k
  | none => -1
theorem fstI_hit (x : Int) : ∀ (l : List Int) (k : Nat), k < l.length → l.getD k 0 = x → (∀ j, j < k → l.getD j 0 ≠ x) → fstI l x = some (k : Int)
  | y :: l, 0, _, h, _ => by simp at h; simp [fstI, h]
  | y :: l, k + 1, h, h1, h2 => by
    have h0 := h2 0 (by omega)
    have ih := fstI_hit x l k (by simpa using h) (by simpa using h1) (fun j hj => by have := h2 (j + 1) (by omega); simpa using this)
    simp at h0
    rw [fstI, if_neg (fun e => h0 e.symm), ih]
    simp
theorem fstI_miss (x : Int) : ∀ (l : List Int), (∀ j, j < l.length → l.getD j 0 ≠ x) → fstI l x = none
  | [], _ => rfl
  | y :: l, h => by
    have h0 := h 0 (by simp)
    have ih := fstI_miss x l (fun j hj => by have := h (j + 1) (by simpa using hj); simpa using this)
    simp at h0
    rw [fstI, if_neg (fun e => h0 e.symm), ih]
    rfl
/-- the arc from a box on -/
def nxO (i : Nat) : Option Int → List (Int × Int)
  | some k => [((i : Int), (i : Int) + 1 + k)]
  | none => []
def nx (l : List Int) (i : Nat) : List (Int × Int) := nxO i (fstI (l.drop (i + 1)) (l.getD i 0))
/-- the arcs of the first i boxes -/
def arcU (l : List Int) : Nat → List (Int × Int)
  | 0 => []
  | i + 1 => arcU l i ++ nx l i
def arcP (l : List Int) : List (Int × Int) := arcU l l.length
theorem nx_len (l : List Int) (i : Nat) : (nx l i).length ≤ 1 := by unfold nx nxO; split <;> simp
theorem arcU_len (l : List Int) : ∀ i, (arcU l i).length ≤ i
  | 0 => by simp [arcU]
  | i + 1 => by
    have := arcU_len l i
    have := nx_len l i
    rw [arcU, List.length_append]; omega
def stepX (x y : Int × Int) (st : Int × Int) : Int × Int :=
  if x.1 < y.1 ∧ y.1 < x.2 then (if x.2 < y.2 then (st.1 + 1, st.2) else if y.2 < x.2 then (st.1, st.2 + 1) else st) else st
def rowX (A : List (Int × Int)) (x : Int × Int) (st : Int × Int) : Nat → Int × Int
  | 0 => st
  | k + 1 => stepX x (A.getD k (0, 0)) (rowX A x st k)
def allX (A : List (Int × Int)) : Nat → Int × Int
  | 0 => (0, 0)
  | i + 1 => rowX A (A.getD i (0, 0)) (allX A i) A.length
/-- crossings and nestings, arc by arc -/
def cnX (l : List Int) : Int × Int := allX (arcP l) (arcP l).length
theorem stepX_bound (x y st : Int × Int) (B : Int) (h : 0 ≤ st.1 ∧ 0 ≤ st.2 ∧ st.1 ≤ B ∧ st.2 ≤ B) : 0 ≤ (stepX x y st).1 ∧ 0 ≤ (stepX x y st).2 ∧ (stepX x y st).1 ≤ B + 1 ∧ (stepX x y st).2 ≤ B + 1 := by
  unfold stepX; split
  · split
    · simp; omega
    · split
      · simp; omega
      · omega
  · omega
theorem rowX_bound (A : List (Int × Int)) (x st : Int × Int) (B : Int) (h : 0 ≤ st.1 ∧ 0 ≤ st.2 ∧ st.1 ≤ B ∧ st.2 ≤ B) : ∀ k : Nat, 0 ≤ (rowX A x st k).1 ∧ 0 ≤ (rowX A x st k).2 ∧ (rowX A x st k).1 ≤ B + k ∧ (rowX A x st k).2 ≤ B + k
  | 0 => by simpa [rowX] using h
  | k + 1 => by
    have ih := rowX_bound A x st B h k
    have := stepX_bound x (A.getD k (0, 0)) (rowX A x st k) (B + k) ih
    rw [rowX]; omega
theorem allX_bound (A : List (Int × Int)) : ∀ i : Nat, 0 ≤ (allX A i).1 ∧ 0 ≤ (allX A i).2 ∧ (allX A i).1 ≤ (i * A.length : Nat) ∧ (allX A i).2 ≤ (i * A.length : Nat)
  | 0 => by simp [allX]
  | i + 1 => by
    have ih := allX_bound A i
    have := rowX_bound A (A.getD i (0, 0)) (allX A i) _ ih A.length
    rw [allX, Nat.succ_mul]; push_cast at *; omega
end Store11
namespace Store11
/-- f 0 + .. + f (n-1) -/
def sm (f : Nat → Int) : Nat → Int
  | 0 => 0
  | n + 1 => sm f n + f n
theorem sm_congr {f g : Nat → Int} : ∀ n, (∀ i, i < n → f i = g i) → sm f n = sm g n
  | 0, _ => rfl
  | n + 1, h => by rw [sm, sm, sm_congr n (fun i hi => h i (by omega)), h n (by omega)]
theorem sm_zero : ∀ n, sm (fun _ => 0) n = 0
  | 0 => rfl
  | n + 1 => by rw [sm, sm_zero n]; rfl
theorem sm_add (f g : Nat → Int) : ∀ n, sm (fun i => f i + g i) n = sm f n + sm g n
  | 0 => rfl
  | n + 1 => by rw [sm, sm, sm, sm_add f g n]; omega
theorem sm_mul (c : Int) (f : Nat → Int) : ∀ n, sm (fun i => c * f i) n = c * sm f n
  | 0 => by simp [sm]
  | n + 1 => by rw [sm, sm, sm_mul c f n, Int.mul_add]
theorem sm_swap (f : Nat → Nat → Int) (m : Nat) : ∀ n, sm (fun i => sm (f i) m) n = sm (fun k => sm (fun i => f i k) n) m
  | 0 => by rw [sm]; exact (sm_zero m).symm
  | n + 1 => by
    rw [sm, sm_swap f m n, ← sm_add]
    exact sm_congr m (fun k _ => rfl)
theorem sm_front (f : Nat → Int) : ∀ n, sm f (n + 1) = f 0 + sm (fun i => f (i + 1)) n
  | 0 => by simp [sm]
  | n + 1 => by rw [sm, sm_front f n, sm]; omega
theorem sm_rev : ∀ (n : Nat) (f : Nat → Int), sm (fun i => f (n - 1 - i)) n = sm f n
  | 0, _ => rfl
  | n + 1, f => by
    rw [sm_front, sm]
    have := sm_rev n f
    rw [← this]
    have e : sm (fun i => f (n + 1 - 1 - (i + 1))) n = sm (fun i => f (n - 1 - i)) n := sm_congr n (fun i _ => by rw [show n + 1 - 1 - (i + 1) = n - 1 - i by omega])
    rw [e, show n + 1 - 1 - 0 = n by omega]; omega
theorem sm_one (f : Nat → Int) (j : Nat) : ∀ n, (∀ i, i < n → i ≠ j → f i = 0) → sm f n = if j < n then f j else 0
  | 0, _ => by simp [sm]
  | n + 1, h => by
    rw [sm, sm_one f j n (fun i hi => h i (by omega))]
    by_cases h1 : j < n
    · rw [if_pos h1, if_pos (by omega), h n (by omega) (by omega)]; omega
    · by_cases h2 : j = n
      · subst h2; rw [if_neg (by omega), if_pos (by omega)]; omega
      · rw [if_neg h1, if_neg (by omega), h n (by omega) (fun e => h2 e.symm)]; rfl
/-- 1 or 0 -/
def bI (p : Prop) [Decidable p] : Int := if p then 1 else 0
theorem bI_congr {p q : Prop} [Decidable p] [Decidable q] (h : p ↔ q) : bI p = bI q := by
  unfold bI
  by_cases hp : p
  · rw [if_pos hp, if_pos (h.1 hp)]
  · rw [if_neg hp, if_neg (fun hq => hp (h.2 hq))]
def Arc (l : List Int) (i j : Nat) : Prop := i < j ∧ j < l.length ∧ l.getD i 0 = l.getD j 0 ∧ ∀ t, t < j → i < t → l.getD t 0 ≠ l.getD i 0
instance (l : List Int) (i j : Nat) : Decidable (Arc l i j) := inferInstanceAs (Decidable (_ ∧ _ ∧ _ ∧ _))
theorem Arc.uniq {l : List Int} {i j k : Nat} (h : Arc l i j) (h' : Arc l i k) : j = k := by
  obtain ⟨a1, a2, a3, a4⟩ := h
  obtain ⟨b1, b2, b3, b4⟩ := h'
  by_cases h1 : j < k
  · exact absurd a3.symm (b4 j h1 a1)
  · by_cases h2 : k < j
    · exact absurd b3.symm (a4 k h2 b1)
    · omega
theorem Arc.uniqL {l : List Int} {i k j : Nat} (h : Arc l i j) (h' : Arc l k j) : i = k := by
  obtain ⟨a1, a2, a3, a4⟩ := h
  obtain ⟨b1, b2, b3, b4⟩ := h'
  by_cases h1 : i < k
  · exact absurd (b3.trans a3.symm) (a4 k b1 h1)
  · by_cases h2 : k < i
    · exact absurd (a3.trans b3.symm) (b4 i a1 h2)
    · omega
/-- the next one: no later one, or an arc -/
def Nxt (l : List Int) (i : Nat) (v : Int) : Prop := (∃ j : Nat, v = (j : Int) ∧ Arc l i j) ∨ (v = 0 ∧ ∀ j, ¬ Arc l i j)
/-- over all arcs -/
def S2 (l : List Int) (f : Nat → Nat → Int) : Int := sm (fun i => sm (fun j => bI (Arc l i j) * f i j) l.length) l.length
theorem S2_congr {l : List Int} {f g : Nat → Nat → Int} (h : ∀ i j, Arc l i j → f i j = g i j) : S2 l f = S2 l g := by
  refine sm_congr _ fun i _ => sm_congr _ fun j _ => ?_
  unfold bI
  by_cases ha : Arc l i j
  · rw [h i j ha]
  · simp [ha]
theorem S2_zero (l : List Int) : S2 l (fun _ _ => 0) = 0 := by
  have : S2 l (fun _ _ => 0) = sm (fun _ => 0) l.length := sm_congr _ fun i _ => (sm_congr _ fun j _ => Int.mul_zero _).trans (sm_zero _)
  rw [this, sm_zero]
theorem S2_swap (l : List Int) (g : Nat → Nat → Nat → Nat → Int) : S2 l (fun i j => S2 l (fun k m => g i j k m)) = S2 l (fun k m => S2 l (fun i j => g i j k m)) := by
  unfold S2
  have e1 : ∀ i j, bI (Arc l i j) * sm (fun k => sm (fun m => bI (Arc l k m) * g i j k m) l.length) l.length = sm (fun k => sm (fun m => bI (Arc l i j) * (bI (Arc l k m) * g i j k m)) l.length) l.length := by
    intro i j
    rw [← sm_mul]
    exact sm_congr _ fun k _ => (sm_mul _ _ _).symm
  have e2 : ∀ k m, bI (Arc l k m) * sm (fun i => sm (fun j => bI (Arc l i j) * g i j k m) l.length) l.length = sm (fun i => sm (fun j => bI (Arc l i j) * (bI (Arc l k m) * g i j k m)) l.length) l.length := by
    intro k m
    rw [← sm_mul]
    refine sm_congr _ fun i _ => ?_
    rw [← sm_mul]
    exact sm_congr _ fun j _ => by rw [Int.mul_left_comm]
  have L : sm (fun i => sm (fun j => bI (Arc l i j) * sm (fun k => sm (fun m => bI (Arc l k m) * g i j k m) l.length) l.length) l.length) l.length = sm (fun i => sm (fun j => sm (fun k => sm (fun m => bI (Arc l i j) * (bI (Arc l k m) * g i j k m)) l.length) l.length) l.length) l.length :=
    sm_congr _ fun i _ => sm_congr _ fun j _ => e1 i j
  have R : sm (fun k => sm (fun m => bI (Arc l k m) * sm (fun i => sm (fun j => bI (Arc l i j) * g i j k m) l.length) l.length) l.length) l.length = sm (fun k => sm (fun m => sm (fun i => sm (fun j => bI (Arc l i j) * (bI (Arc l k m) * g i j k m)) l.length) l.length) l.length) l.length :=
    sm_congr _ fun i _ => sm_congr _ fun j _ => e2 i j
  rw [L, R]
  generalize l.length = n
  generalize hF : (fun i j k m => bI (Arc l i j) * (bI (Arc l k m) * g i j k m)) = F
  have hF' : ∀ i j k m, bI (Arc l i j) * (bI (Arc l k m) * g i j k m) = F i j k m := fun i j k m => by rw [← hF]
  simp only [hF']
  clear hF hF' e1 e2 L R
  have s1 : sm (fun i => sm (fun j => sm (fun k => sm (fun m => F i j k m) n) n) n) n = sm (fun i => sm (fun k => sm (fun j => sm (fun m => F i j k m) n) n) n) n :=
    sm_congr n fun i _ => sm_swap (fun j k => sm (fun m => F i j k m) n) n n
  have s2 : sm (fun i => sm (fun k => sm (fun j => sm (fun m => F i j k m) n) n) n) n = sm (fun k => sm (fun i => sm (fun j => sm (fun m => F i j k m) n) n) n) n :=
    sm_swap (fun i k => sm (fun j => sm (fun m => F i j k m) n) n) n n
  have s3 : sm (fun k => sm (fun i => sm (fun j => sm (fun m => F i j k m) n) n) n) n = sm (fun k => sm (fun i => sm (fun m => sm (fun j => F i j k m) n) n) n) n :=
    sm_congr n fun k _ => sm_congr n fun i _ => sm_swap (fun j m => F i j k m) n n
  have s4 : sm (fun k => sm (fun i => sm (fun m => sm (fun j => F i j k m) n) n) n) n = sm (fun k => sm (fun m => sm (fun i => sm (fun j => F i j k m) n) n) n) n :=
    sm_congr n fun k _ => sm_swap (fun i m => sm (fun j => F i j k m) n) n n
  rw [s1, s2, s3, s4]
/-- crossings -/
def crS (l : List Int) : Int := S2 l fun i j => S2 l fun k m => bI (i < k ∧ k < j ∧ j < m)
/-- nestings -/
def neS (l : List Int) : Int := S2 l fun i j => S2 l fun k m => bI (i < k ∧ m < j)
theorem sm_nxt {l : List Int} {i : Nat} {v : Int} (h : Nxt l i v) (f : Nat → Int) : sm (fun j => bI (Arc l i j) * f j) l.length = if v = 0 then 0 else f v.toNat := by
  rcases h with ⟨j, rfl, ha⟩ | ⟨rfl, hn⟩
  · rw [sm_one _ j _ (fun t _ ht => ?_)]
    · have h1 := ha.1
      have h2 := ha.2.1
      rw [if_pos h2, if_neg (by omega)]
      simp [bI, ha]
    · have : ¬ Arc l i t := fun h => ht (h.uniq ha)
      simp [bI, this]
  · rw [if_pos rfl]
    exact (sm_congr _ fun j _ => by simp [bI, hn j]).trans (sm_zero l.length)
/-- rev -/
theorem Arc_rev {l l' : List Int} (hl : l'.length = l.length) (hp : ∀ i k, i < l.length → k < l.length → (l'.getD i 0 = l'.getD k 0 ↔ l.getD (l.length - 1 - i) 0 = l.getD (l.length - 1 - k) 0)) (i j : Nat) (hi : i < l.length) (hj : j < l.length) :
    Arc l' i j ↔ Arc l (l.length - 1 - j) (l.length - 1 - i) := by
  constructor
  · rintro ⟨a1, a2, a3, a4⟩
    refine ⟨by omega, by omega, ((hp i j hi hj).1 a3).symm, fun t ht1 ht2 e => ?_⟩
    refine a4 (l.length - 1 - t) (by omega) (by omega) ((hp _ _ (by omega) hi).2 ?_)
    rw [show l.length - 1 - (l.length - 1 - t) = t by omega, e]
    exact ((hp i j hi hj).1 a3).symm
  · rintro ⟨a1, a2, a3, a4⟩
    have e3 := (hp i j hi hj).2 a3.symm
    refine ⟨by omega, by omega, e3, fun t ht1 ht2 e => ?_⟩
    refine a4 (l.length - 1 - t) (by omega) (by omega) (((hp t i (by omega) hi).1 e).trans a3.symm)
theorem S2_rev {l l' : List Int} (hl : l'.length = l.length) (hp : ∀ i k, i < l.length → k < l.length → (l'.getD i 0 = l'.getD k 0 ↔ l.getD (l.length - 1 - i) 0 = l.getD (l.length - 1 - k) 0)) (f : Nat → Nat → Int) :
    S2 l' f = S2 l (fun b a => f (l.length - 1 - a) (l.length - 1 - b)) := by
  unfold S2
  rw [hl]
  have e1 : sm (fun i => sm (fun j => bI (Arc l' i j) * f i j) l.length) l.length = sm (fun i => sm (fun j => bI (Arc l (l.length - 1 - j) (l.length - 1 - i)) * f i j) l.length) l.length :=
    sm_congr _ fun i hi => sm_congr _ fun j hj => by rw [bI_congr (Arc_rev hl hp i j hi hj)]
  rw [e1]
  generalize hn : l.length = n
  rw [← sm_rev n (fun i => sm (fun j => bI (Arc l i j) * f (n - 1 - j) (n - 1 - i)) n)]
  have e2 : ∀ i, i < n → sm (fun j => bI (Arc l (n - 1 - i) j) * f (n - 1 - j) (n - 1 - (n - 1 - i))) n = sm (fun j => bI (Arc l (n - 1 - i) (n - 1 - j)) * f j i) n := by
    intro i hi
    rw [← sm_rev n (fun j => bI (Arc l (n - 1 - i) j) * f (n - 1 - j) (n - 1 - (n - 1 - i)))]
    refine sm_congr _ fun j hj => ?_
    rw [show n - 1 - (n - 1 - j) = j by omega, show n - 1 - (n - 1 - i) = i by omega]
  rw [sm_congr n e2]
  exact sm_swap (fun i j => bI (Arc l (n - 1 - j) (n - 1 - i)) * f i j) n n
theorem crS_rev {l l' : List Int} (hl : l'.length = l.length) (hp : ∀ i k, i < l.length → k < l.length → (l'.getD i 0 = l'.getD k 0 ↔ l.getD (l.length - 1 - i) 0 = l.getD (l.length - 1 - k) 0)) : crS l' = crS l := by
  unfold crS
  rw [S2_rev hl hp]
  refine Eq.trans (S2_congr fun b a _ => S2_rev hl hp _) ?_
  rw [S2_swap]
  refine S2_congr fun d c hc => S2_congr fun b a ha => bI_congr ?_
  have := hc.1; have := hc.2.1; have := ha.1; have := ha.2.1
  omega
theorem neS_rev {l l' : List Int} (hl : l'.length = l.length) (hp : ∀ i k, i < l.length → k < l.length → (l'.getD i 0 = l'.getD k 0 ↔ l.getD (l.length - 1 - i) 0 = l.getD (l.length - 1 - k) 0)) : neS l' = neS l := by
  unfold neS
  rw [S2_rev hl hp]
  refine Eq.trans (S2_congr fun b a _ => S2_rev hl hp _) ?_
  refine S2_congr fun d c hc => S2_congr fun b a ha => bI_congr ?_
  have := hc.1; have := hc.2.1; have := ha.1; have := ha.2.1
  omega
theorem Arc_pat {l l' : List Int} (hl : l'.length = l.length) (hp : ∀ i k, i < l.length → k < l.length → (l'.getD i 0 = l'.getD k 0 ↔ l.getD i 0 = l.getD k 0)) (i j : Nat) : Arc l' i j ↔ Arc l i j := by
  constructor
  · rintro ⟨a1, a2, a3, a4⟩
    refine ⟨by omega, by omega, (hp i j (by omega) (by omega)).1 a3, fun t ht1 ht2 e => a4 t ht1 ht2 ((hp _ _ (by omega) (by omega)).2 e)⟩
  · rintro ⟨a1, a2, a3, a4⟩
    refine ⟨by omega, by omega, (hp i j (by omega) (by omega)).2 a3, fun t ht1 ht2 e => a4 t ht1 ht2 ((hp _ _ (by omega) (by omega)).1 e)⟩
end Store11
namespace Store11
theorem lastK_some (l : List Int) : ∀ (k : Nat) (y i : Int), lastK l k y = some i → ∃ j : Nat, i = (j : Int) ∧ j < k ∧ l.getD j 0 = y ∧ ∀ t, t < k → j < t → l.getD t 0 ≠ y
  | 0, _, _, h => by cases h
  | k + 1, y, i, h => by
    rw [lastK] at h
    dsimp only at h
    split at h
    · rename_i hy
      cases h
      exact ⟨k, rfl, by omega, hy.symm, fun t h1 h2 => by omega⟩
    · rename_i hy
      obtain ⟨j, rfl, h1, h2, h3⟩ := lastK_some l k y i h
      refine ⟨j, rfl, by omega, h2, fun t ht1 ht2 => ?_⟩
      by_cases e : t = k
      · subst e; exact fun e => hy e.symm
      · exact h3 t (by omega) ht2
theorem lastK_none (l : List Int) : ∀ (k : Nat) (y : Int), lastK l k y = none → ∀ t, t < k → l.getD t 0 ≠ y
  | 0, _, _, t, ht => by omega
  | k + 1, y, h, t, ht => by
    rw [lastK] at h
    dsimp only at h
    split at h
    · cases h
    · rename_i hy
      by_cases e : t = k
      · subst e; exact fun e => hy e.symm
      · exact lastK_none l k y h t (by omega)
def NxtK (l : List Int) (k i : Nat) (v : Int) : Prop := (∃ j : Nat, v = (j : Int) ∧ j < k ∧ Arc l i j) ∨ (v = 0 ∧ ∀ j, j < k → ¬ Arc l i j)
theorem arcK_nxt (l : List Int) : ∀ k, k ≤ l.length → ∀ i, NxtK l k i ((arcK l k).getD i 0)
  | 0, _, i => .inr ⟨by
      rw [arcK]
      by_cases h : i < l.length
      · simp [List.getD, h]
      · simp [List.getD, h], fun j hj => by omega⟩
  | k + 1, hk, i => by
    have ih := arcK_nxt l k (by omega) i
    rw [arcK]
    split
    · rename_i j hj
      obtain ⟨j, rfl, h1, h2, h3⟩ := lastK_some l k _ _ hj
      have ha : Arc l j k := ⟨h1, by omega, h2, fun t h4 h5 => by rw [h2]; exact h3 t h4 h5⟩
      rw [Int.toNat_natCast]
      by_cases hi : j = i
      · subst hi
        have hlt : j < (arcK l k).length := by rw [arcK_len]; omega
        left
        refine ⟨k, ?_, by omega, ha⟩
        simp [List.getD, hlt]
      · have e : ((arcK l k).set j (k : Int)).getD i 0 = (arcK l k).getD i 0 := by
          rw [List.getD, List.getElem?_set_ne hi, ← List.getD]
        rw [e]
        rcases ih with ⟨m, h4, h5, h6⟩ | ⟨h4, h5⟩
        · exact .inl ⟨m, h4, by omega, h6⟩
        · refine .inr ⟨h4, fun m hm hA => ?_⟩
          by_cases e : m = k
          · subst e; exact hi (ha.uniqL hA)
          · exact h5 m (by omega) hA
    · rename_i hn
      have hn2 := lastK_none l k _ hn
      rcases ih with ⟨m, h4, h5, h6⟩ | ⟨h4, h5⟩
      · exact .inl ⟨m, h4, by omega, h6⟩
      · refine .inr ⟨h4, fun m hm hA => ?_⟩
        by_cases e : m = k
        · subst e; exact hn2 i hA.1 hA.2.2.1
        · exact h5 m (by omega) hA
theorem arcR_nxt (l : List Int) (i : Nat) : Nxt l i ((arcR l).getD i 0) := by
  rcases arcK_nxt l l.length (Nat.le_refl _) i with ⟨j, h1, h2, h3⟩ | ⟨h1, h2⟩
  · exact .inl ⟨j, h1, h3⟩
  · exact .inr ⟨h1, fun j hA => h2 j hA.2.1 hA⟩
theorem nx_arc (l : List Int) (i : Nat) : (∃ j : Nat, nx l i = [((i : Int), (j : Int))] ∧ Arc l i j) ∨ (nx l i = [] ∧ ∀ j, ¬ Arc l i j) := by
  have key : ∀ (d : List Int) (x : Int) (i0 : Nat), (∀ t, d.getD t 0 = l.getD (i0 + t) 0) → d.length = l.length - i0 → x = l.getD i 0 → i < i0 → (∀ t, t < i0 → i < t → l.getD t 0 ≠ x) →
      (∃ k : Nat, fstI d x = some (k : Int) ∧ Arc l i (i0 + k)) ∨ (fstI d x = none ∧ ∀ j, ¬ Arc l i j) := by
    intro d
    induction d with
    | nil =>
      intro x i0 h1 h2 h3 h4 h5
      refine .inr ⟨rfl, fun j hA => ?_⟩
      have := hA.2.1
      simp at h2
      exact h5 j (by omega) hA.1 (by rw [h3]; exact hA.2.2.1.symm)
    | cons y d ih =>
      intro x i0 h1 h2 h3 h4 h5
      have h0 := h1 0
      simp at h0 h2
      by_cases hxy : x = y
      · refine .inl ⟨0, by simp [fstI, hxy], ⟨by omega, by omega, ?_, fun t ht1 ht2 => ?_⟩⟩
        · rw [Nat.add_zero, ← h3, hxy, h0]; simp [List.getD]
        · rw [← h3]; exact h5 t (by omega) ht2
      · have := ih x (i0 + 1) (fun t => by have := h1 (t + 1); simp at this; rw [show i0 + 1 + t = i0 + (t + 1) by omega]; simpa using this) (by omega) h3 (by omega) (fun t ht1 ht2 => by
          by_cases e : t = i0
          · subst e; intro e2; exact hxy (by rw [← e2, h0]; simp [List.getD])
          · exact h5 t (by omega) ht2)
        rcases this with ⟨k, h6, h7⟩ | ⟨h6, h7⟩
        · refine .inl ⟨k + 1, by rw [fstI, if_neg hxy, h6]; simp, by rw [show i0 + (k + 1) = i0 + 1 + k by omega]; exact h7⟩
        · exact .inr ⟨by rw [fstI, if_neg hxy, h6]; rfl, h7⟩
  have := key (l.drop (i + 1)) (l.getD i 0) (i + 1) (fun t => by simp [List.getD, List.getElem?_drop]) (by simp) rfl (by omega) (fun t h1 h2 => by omega)
  rcases this with ⟨k, h1, h2⟩ | ⟨h1, h2⟩
  · refine .inl ⟨i + 1 + k, by rw [nx, h1]; simp [nxO], h2⟩
  · exact .inr ⟨by rw [nx, h1, nxO], h2⟩
/-- over a list of pairs -/
def sL (A : List (Int × Int)) (f : Int × Int → Int) : Int := sm (fun k => f (A.getD k (0, 0))) A.length
theorem sL_append (A B : List (Int × Int)) (f : Int × Int → Int) (hB : B.length ≤ 1) : sL (A ++ B) f = sL A f + sL B f := by
  unfold sL
  match B, hB with
  | [], _ => simp [sm]
  | [b], _ =>
    rw [List.length_append, show A.length + [b].length = A.length + 1 from rfl, sm]
    have e : sm (fun k => f ((A ++ [b]).getD k (0, 0))) A.length = sm (fun k => f (A.getD k (0, 0))) A.length :=
      sm_congr _ fun i hi => by simp [List.getD, hi, List.getElem?_append_left hi]
    rw [e]; simp [sm, List.getD]
theorem sL_arcU (l : List Int) (f : Int × Int → Int) : ∀ i, sL (arcU l i) f = sm (fun i : Nat => sm (fun j : Nat => bI (Arc l i j) * f ((i : Int), (j : Int))) l.length) i
  | 0 => rfl
  | i + 1 => by
    rw [arcU, sL_append _ _ _ (nx_len l i), sL_arcU l f i, sm]
    congr 1
    rcases nx_arc l i with ⟨j, h1, h2⟩ | ⟨h1, h2⟩
    · rw [h1, sm_nxt (.inl ⟨j, rfl, h2⟩) (fun j : Nat => f ((i : Int), (j : Int)))]
      have := h2.1
      rw [if_neg (by omega)]
      simp [sL, sm, List.getD]
    · rw [h1, sm_nxt (.inr ⟨rfl, h2⟩) (fun j : Nat => f ((i : Int), (j : Int)))]
      simp [sL, sm]
theorem sL_arcP (l : List Int) (f : Int × Int → Int) : sL (arcP l) f = S2 l fun i j : Nat => f ((i : Int), (j : Int)) := sL_arcU l f l.length
/-- the law's count -/
theorem rowX_sum (A : List (Int × Int)) (x st : Int × Int) : ∀ k, rowX A x st k = (st.1 + sm (fun t => bI (x.1 < (A.getD t (0, 0)).1 ∧ (A.getD t (0, 0)).1 < x.2 ∧ x.2 < (A.getD t (0, 0)).2)) k, st.2 + sm (fun t => bI (x.1 < (A.getD t (0, 0)).1 ∧ (A.getD t (0, 0)).1 < x.2 ∧ (A.getD t (0, 0)).2 < x.2)) k)
  | 0 => by simp [rowX, sm]
  | k + 1 => by
    rw [rowX, rowX_sum A x st k, sm, sm]
    generalize A.getD k (0, 0) = y
    unfold stepX bI
    simp only []
    by_cases c1 : x.1 < y.1 ∧ y.1 < x.2
    · rw [if_pos c1]
      by_cases c2 : x.2 < y.2
      · rw [if_pos c2, if_pos ⟨c1.1, c1.2, c2⟩, if_neg (by omega)]
        ext <;> simp only [] <;> omega
      · rw [if_neg c2]
        by_cases c3 : y.2 < x.2
        · rw [if_pos c3, if_neg (by omega), if_pos ⟨c1.1, c1.2, c3⟩]
          ext <;> simp only [] <;> omega
        · rw [if_neg c3, if_neg (by omega), if_neg (by omega)]
          ext <;> simp only [] <;> omega
    · rw [if_neg c1, if_neg (by omega), if_neg (by omega)]
      ext <;> simp only [] <;> omega
theorem allX_sum (A : List (Int × Int)) : ∀ i, allX A i = (sm (fun s => sm (fun t => bI ((A.getD s (0, 0)).1 < (A.getD t (0, 0)).1 ∧ (A.getD t (0, 0)).1 < (A.getD s (0, 0)).2 ∧ (A.getD s (0, 0)).2 < (A.getD t (0, 0)).2)) A.length) i, sm (fun s => sm (fun t => bI ((A.getD s (0, 0)).1 < (A.getD t (0, 0)).1 ∧ (A.getD t (0, 0)).1 < (A.getD s (0, 0)).2 ∧ (A.getD t (0, 0)).2 < (A.getD s (0, 0)).2)) A.length) i)
  | 0 => by simp [allX, sm]
  | i + 1 => by rw [allX, rowX_sum, allX_sum A i, sm, sm]
theorem cnX_eq (l : List Int) : cnX l = (crS l, neS l) := by
  rw [cnX, allX_sum]
  have e1 : ∀ f : Int × Int → Int × Int → Int, sm (fun s => sm (fun t => f ((arcP l).getD s (0, 0)) ((arcP l).getD t (0, 0))) (arcP l).length) (arcP l).length = S2 l fun i j : Nat => S2 l fun k m : Nat => f ((i : Int), (j : Int)) ((k : Int), (m : Int)) := by
    intro f
    have : ∀ x, sm (fun t => f x ((arcP l).getD t (0, 0))) (arcP l).length = S2 l fun k m : Nat => f x ((k : Int), (m : Int)) := fun x => sL_arcP l (f x)
    have h2 := sL_arcP l (fun x => S2 l fun k m : Nat => f x ((k : Int), (m : Int)))
    rw [← h2, sL]
    exact sm_congr _ fun s _ => this _
  rw [e1 (fun x y => bI (x.1 < y.1 ∧ y.1 < x.2 ∧ x.2 < y.2)), e1 (fun x y => bI (x.1 < y.1 ∧ y.1 < x.2 ∧ y.2 < x.2))]
  congr 1
  · exact S2_congr fun i j _ => S2_congr fun k m _ => bI_congr (by simp)
  · refine S2_congr fun i j _ => S2_congr fun k m hk => bI_congr ?_
    have := hk.1
    simp
    omega
/-- the program's count -/
theorem rowC_sum (N : List Int) (i : Nat) (st : Int × Int) : ∀ m, rowC N i st m = (st.1 + sm (fun t => bI (N.getD i 0 < N.getD (i + 1 + t) 0)) m, st.2 + sm (fun t => bI (0 < N.getD (i + 1 + t) 0 ∧ N.getD (i + 1 + t) 0 < N.getD i 0)) m)
  | 0 => by simp [rowC, sm]
  | m + 1 => by
    rw [rowC, rowC_sum N i st m, sm, sm]
    unfold stepC bI
    simp only []
    generalize N.getD (i + 1 + m) 0 = y
    by_cases c1 : N.getD i 0 < y
    · rw [if_pos c1]
      by_cases c3 : 0 < y ∧ y < N.getD i 0
      · omega
      · rw [if_pos c1, if_neg c3]
        ext <;> simp only [] <;> omega
    · rw [if_neg c1]
      by_cases c3 : 0 < y ∧ y < N.getD i 0
      · rw [if_pos c3, if_neg c1, if_pos c3]; ext <;> simp only [] <;> omega
      · rw [if_neg c3, if_neg c1, if_neg c3]; ext <;> simp only [] <;> omega
theorem sm_window (f : Nat → Int) (a m n : Nat) (h : a + m ≤ n) : sm (fun t => f (a + t)) m = sm (fun k => bI (a ≤ k ∧ k < a + m) * f k) n := by
  have h0 : ∀ n, n ≤ a → sm (fun k => bI (a ≤ k ∧ k < a + m) * f k) n = 0 := fun n hn => (sm_congr n fun k hk => by rw [bI, if_neg (by omega), Int.zero_mul]).trans (sm_zero n)
  have h1 : ∀ d, d ≤ m → sm (fun k => bI (a ≤ k ∧ k < a + m) * f k) (a + d) = sm (fun t => f (a + t)) d := by
    intro d
    induction d with
    | zero => intro _; exact h0 a (Nat.le_refl _)
    | succ d ih =>
      intro hd
      rw [show a + (d + 1) = (a + d) + 1 from rfl, sm, ih (by omega), sm, bI, if_pos (by omega), Int.one_mul]
  have h2 : ∀ e, sm (fun k => bI (a ≤ k ∧ k < a + m) * f k) (a + m + e) = sm (fun t => f (a + t)) m := by
    intro e
    induction e with
    | zero => exact h1 m (Nat.le_refl _)
    | succ e ih => rw [show a + m + (e + 1) = (a + m + e) + 1 from rfl, sm, ih, bI, if_neg (by omega), Int.zero_mul, Int.add_zero]
  have := h2 (n - (a + m))
  rw [show a + m + (n - (a + m)) = n by omega] at this
  exact this.symm
theorem allC_sum (l : List Int) : ∀ i, i ≤ l.length → allC (arcR l) i = (sm (fun i => sm (fun j => bI (Arc l i j) * S2 l fun k m => bI (i < k ∧ k < j ∧ j < m)) l.length) i, sm (fun i => sm (fun j => bI (Arc l i j) * S2 l fun k m => bI (i < k ∧ m < j)) l.length) i)
  | 0, _ => by simp [allC, sm]
  | i + 1, hi => by
    rw [allC, rowC_sum, allC_sum l i (by omega), sm, sm]
    have hN := arcR_nxt l i
    rw [sm_nxt hN (fun j => S2 l fun k m => bI (i < k ∧ k < j ∧ j < m)), sm_nxt hN (fun j => S2 l fun k m => bI (i < k ∧ m < j))]
    rcases hN with ⟨j, h1, h2⟩ | ⟨h1, h2⟩
    · rw [h1]
      have hij := h2.1
      have hjn := h2.2.1
      have e1 : ((j : Int) - ((i : Int) + 1)).toNat = j - (i + 1) := by omega
      rw [e1, if_neg (by omega), if_neg (by omega), Int.toNat_natCast]
      have w1 := sm_window (fun k => bI ((j : Int) < (arcR l).getD k 0)) (i + 1) (j - (i + 1)) l.length (by omega)
      have w2 := sm_window (fun k => bI (0 < (arcR l).getD k 0 ∧ (arcR l).getD k 0 < (j : Int))) (i + 1) (j - (i + 1)) l.length (by omega)
      rw [w1, w2]
      congr 2
      · refine sm_congr _ fun k hk => ?_
        rw [sm_nxt (arcR_nxt l k) (fun m => bI (i < k ∧ k < j ∧ j < m))]
        rcases arcR_nxt l k with ⟨m, h3, h4⟩ | ⟨h3, h4⟩
        · rw [h3]
          have := h4.1
          rw [if_neg (by omega), Int.toNat_natCast]
          unfold bI
          by_cases c : i < k ∧ k < j
          · rw [if_pos (c := i + 1 ≤ k ∧ k < i + 1 + (j - (i + 1))) (by omega), Int.one_mul]
            by_cases c2 : j < m
            · rw [if_pos (by omega), if_pos ⟨c.1, c.2, c2⟩]
            · rw [if_neg (by omega), if_neg (by omega)]
          · rw [if_neg (c := i + 1 ≤ k ∧ k < i + 1 + (j - (i + 1))) (by omega), if_neg (c := i < k ∧ k < j ∧ j < m) (by omega), Int.zero_mul]
        · rw [h3, if_pos rfl, bI, bI, if_neg (c := (j : Int) < 0) (by omega), Int.mul_zero]
      · refine sm_congr _ fun k hk => ?_
        rw [sm_nxt (arcR_nxt l k) (fun m => bI (i < k ∧ m < j))]
        rcases arcR_nxt l k with ⟨m, h3, h4⟩ | ⟨h3, h4⟩
        · rw [h3]
          have := h4.1
          rw [if_neg (by omega), Int.toNat_natCast]
          unfold bI
          by_cases c : i < k ∧ m < j
          · rw [if_pos (c := i + 1 ≤ k ∧ k < i + 1 + (j - (i + 1))) (by omega), if_pos (c := (0 : Int) < (m : Int) ∧ (m : Int) < (j : Int)) (by omega), if_pos c]; rfl
          · rw [if_neg (c := i < k ∧ m < j) c]
            by_cases c2 : i + 1 ≤ k ∧ k < i + 1 + (j - (i + 1))
            · rw [if_neg (c := (0 : Int) < (m : Int) ∧ (m : Int) < (j : Int)) (by omega), Int.mul_zero]
            · rw [if_neg c2, Int.zero_mul]
        · rw [h3, if_pos rfl, bI, bI, if_neg (c := (0 : Int) < 0 ∧ (0 : Int) < j) (by omega), Int.mul_zero]
    · rw [h1, if_pos rfl, if_pos rfl]
      have e1 : ((0 : Int) - ((i : Int) + 1)).toNat = 0 := by omega
      rw [e1]; rfl
theorem cnR_eq (l : List Int) : cnR l = (crS l, neS l) := allC_sum l l.length (Nat.le_refl _)
theorem cnX_cnR (l : List Int) : cnX l = cnR l := by rw [cnX_eq, cnR_eq]
end Store11
namespace Store11
variable {α : Type}
theorem fstI_hitG [DecidableEq α] (x d : α) : ∀ (l : List α) (k : Nat), k < l.length → l.getD k d = x → (∀ j, j < k → l.getD j d ≠ x) → fstI l x = some (k : Int)
  | y :: l, 0, _, h, _ => by simp at h; simp [fstI, h]
  | y :: l, k + 1, h, h1, h2 => by
    have h0 := h2 0 (by omega)
    have ih := fstI_hitG x d l k (by simpa using h) (by simpa using h1) (fun j hj => by have := h2 (j + 1) (by omega); simpa using this)
    simp at h0
    rw [fstI, if_neg (fun e => h0 e.symm), ih]
    simp
/-- keys and rooms behind the first i labels -/
def dvK (l : List Int) (r : Int) (i : Nat) : List Int × List Int := ((l.take i).map (· % r)).foldl divS ([], [])
theorem dvK_succ (l : List Int) (r : Int) (i : Nat) (h : i < l.length) : dvK l r (i + 1) = divS (dvK l r i) (l.getD i 0 % r) := by
  unfold dvK
  rw [take_succ_getD l i h, List.map_append, List.foldl_append]
  rfl
theorem divS_len (st : List Int × List Int) (x : Int) : (divS st x).2.length = st.2.length + 1 := by
  unfold divS; split <;> simp
theorem dvK_len (l : List Int) (r : Int) : ∀ i, i ≤ l.length → (dvK l r i).2.length = i ∧ (dvK l r i).1.length ≤ i
  | 0, _ => by simp [dvK]
  | i + 1, h => by
    have ih := dvK_len l r i (by omega)
    rw [dvK_succ l r i (by omega), divS_len]
    refine ⟨by omega, ?_⟩
    unfold divS; split <;> simp <;> omega
end Store11
